/-
  Replica: append.
-/
import Derived.Test.YtfpgbejdlikpgaaDoorRB6
import Derived.Test.YtfpgbejdlikpgaaDoorRB5
import Derived.Shelf.Strings.Builder1
import Derived.Shelf.Strconv.Itoa3
import Derived.Lib.AppendStr
import Derived.Lib.LaidTab
import Derived.LaidMore
import Derived.OpenShut
import Derived.Stop.Joined
import Derived.Shelf.Small.Strs
import Derived.Shelf.Small.Wraps
import Derived.Shelf.Strconv.Atoi
import Derived.Shelf.Strconv.Itoa0
import Derived.Shelf.Strconv.Itoa1
import Derived.Shelf.LaysM
import Derived.Shelf.Strconv.Itoa2
import Derived.Shelf.Strconv.AtoiErrFast
import Derived.Shelf.Strconv.ParseIntEmpty
import Derived.Shelf.Strconv.AtoiFail
import Derived.Shelf.Strconv.Clone
import Derived.Shelf.Strconv.SyntaxError
import Derived.Shelf.LaysC
import Derived.Shelf.Strconv.ToError
import Derived.Shelf.Strconv.Lower
import Derived.Shelf.Strconv.ParseUint10
import Derived.Shelf.Strconv.ParseUint10Empty
import Derived.Shelf.Strconv.ParseUint10Any
import Derived.Shelf.Strconv.ParseInt10
import Derived.Shelf.Strconv.AtoiLong
import Derived.Shelf.Strconv.AtoiInnerAll
import Derived.Shelf.Strconv.RangeError
import Derived.Shelf.Strconv.ToErrorRange
import Derived.Shelf.Strconv.AtoiAll
import Derived.Shelf.Strconv.ParseUintEmpty
import Derived.Shelf.Strconv.ParseUint10b64
import Derived.Shelf.Strconv.ParseUint10b32
import Derived.Shelf.Strconv.ParseUint10b16
import Derived.Shelf.Strconv.ParseUint10b8
import Derived.Shelf.Strings.Search1
import Derived.Shelf.Strings.Prefix
import Derived.Test.YtfpgbejdlikpgaaDoorRows

section
set_option linter.unusedVariables false
set_option linter.unusedSimpArgs false
namespace Go.Proofs.YtfpgbejdlikpgaaDoor
open Go.Vc

theorem agree_le : ∀ a b : List RecD, agree a b ≤ b.length
  | [], b => by cases b <;> simp [agree]
  | x :: a, [] => by simp [agree]
  | x :: a, y :: b => by
    unfold agree
    split
    · have := agree_le a b; simp only [List.length_cons]; omega
    · simp

theorem agree_lt : ∀ a b : List RecD, agree a b ≤ a.length
  | [], b => by cases b <;> simp [agree]
  | x :: a, [] => by simp [agree]
  | x :: a, y :: b => by
    unfold agree
    split
    · have := agree_lt a b; simp only [List.length_cons]; omega
    · simp

theorem agree_step {l rs : List RecD} {n j : Nat} (hj : j < rs.length) : agree (l.drop (n + j)) (rs.drop j) = if (decide (n + j < l.length) && decide (termAt l (n + j + 1) = rs[j].term)) = true then agree (l.drop (n + j + 1)) (rs.drop (j + 1)) + 1 else 0 := by
  rw [List.drop_eq_getElem_cons hj]
  by_cases h : n + j < l.length
  · rw [List.drop_eq_getElem_cons h, decide_eq_true h, Bool.true_and, termAt_succ h]
    by_cases ht : l[n + j].term = rs[j].term
    · rw [if_pos (decide_eq_true ht)]; simp [agree, ht]
    · rw [if_neg (by simp [ht])]; simp [agree, ht]
  · rw [decide_eq_false h, Bool.false_and, if_neg (by simp), List.drop_eq_nil_of_le (by omega)]
    rfl

theorem append_old {r : Rep} {m : MsgR} (h : m.term < r.term) : appendP r m = (r, outS [msgOf r 3 m.src]) := by unfold appendP; rw [if_pos h]
theorem append_lead {r : Rep} {m : MsgR} (h : ¬ m.term < r.term) (h2 : r.role = 2) : appendP r m = (r, out0) := by unfold appendP; rw [if_neg h, if_pos h2]
def folR (r : Rep) : Rep := { r with role := 0 }
def nackOf (r : Rep) (m : MsgR) : MsgR := ⟨3, r.id, m.src, r.term, min (r.log.length : Int) (m.index - 1), 0, 0, false, []⟩
theorem append_gap {r : Rep} {m : MsgR} (h : ¬ m.term < r.term) (h2 : ¬ r.role = 2) (h3 : (decide ((r.log.length : Int) < m.index) || decide (termAt r.log m.index.toNat ≠ m.prev)) = true) : appendP r m = (folR r, outS [nackOf r m]) := by unfold appendP; rw [if_neg h, if_neg h2]; simp only; rw [if_pos h3]; rfl
def appC (r : Rep) (m : MsgR) : Nat := max r.commit (min m.commit.toNat (m.index.toNat + m.recs.length))
def appK (r : Rep) (m : MsgR) : Nat := agree (r.log.drop m.index.toNat) m.recs
def sameR (r : Rep) (m : MsgR) : Rep := { r with role := 0, commit := appC r m }
def appR (r : Rep) (m : MsgR) (k : Nat) : Rep := { r with role := 0, log := r.log.take (m.index.toNat + k) ++ m.recs.drop k, commit := appC r m }
theorem append_same {r : Rep} {m : MsgR} (h : ¬ m.term < r.term) (h2 : ¬ r.role = 2) (h3 : (decide ((r.log.length : Int) < m.index) || decide (termAt r.log m.index.toNat ≠ m.prev)) = false) (h4 : ¬ appK r m < m.recs.length) : appendP r m = (sameR r m, outS [ackOf r m]) := by
  unfold appendP; rw [if_neg h, if_neg h2]; simp only; rw [if_neg (by rw [h3]; simp), if_neg (show ¬ agree (r.log.drop m.index.toNat) m.recs < m.recs.length from h4)]; rfl
theorem append_done {r : Rep} {m : MsgR} (h : ¬ m.term < r.term) (h2 : ¬ r.role = 2) (h3 : (decide ((r.log.length : Int) < m.index) || decide (termAt r.log m.index.toNat ≠ m.prev)) = false) (h4 : appK r m < m.recs.length) (h5 : m.index.toNat + appK r m + 1 ≤ r.commit) : appendP r m = (folR r, out0) := by
  unfold appendP; rw [if_neg h, if_neg h2]; simp only; rw [if_neg (by rw [h3]; simp), if_pos (show agree (r.log.drop m.index.toNat) m.recs < m.recs.length from h4), if_pos (show m.index.toNat + agree (r.log.drop m.index.toNat) m.recs + 1 ≤ r.commit from h5)]; rfl
theorem append_new {r : Rep} {m : MsgR} (h : ¬ m.term < r.term) (h2 : ¬ r.role = 2) (h3 : (decide ((r.log.length : Int) < m.index) || decide (termAt r.log m.index.toNat ≠ m.prev)) = false) (h4 : appK r m < m.recs.length) (h5 : ¬ m.index.toNat + appK r m + 1 ≤ r.commit) :
    appendP r m = (appR r m (appK r m), ⟨false, 0, 0, ((m.index.toNat + appK r m + 1 : Nat) : Int), m.recs.drop (appK r m), [ackOf r m]⟩) := by
  unfold appendP; rw [if_neg h, if_neg h2]; simp only; rw [if_neg (by rw [h3]; simp), if_pos (show agree (r.log.drop m.index.toNat) m.recs < m.recs.length from h4), if_neg (show ¬ m.index.toNat + agree (r.log.drop m.index.toNat) m.recs + 1 ≤ r.commit from h5)]; rfl

/-- what a right message is -/
structure MsgR.Right (id : Nat) (m : MsgR) : Prop where
  kind : 0 ≤ m.kind ∧ m.kind ≤ 3
  to : m.to = id
  src : m.src ≠ id ∧ 0 ≤ m.src ∧ m.src ≤ 2
  term : 1 ≤ m.term ∧ m.term ≤ 1099511627776
  index : 0 ≤ m.index ∧ m.index ≤ 4000
  prev : 0 ≤ m.prev ∧ m.prev ≤ m.term
  zero : m.index = 0 → m.prev = 0
  commit : 0 ≤ m.commit ∧ m.commit ≤ 4000
  len : m.recs.length ≤ 8
  fits : m.index + m.recs.length ≤ 4000
  sound : soundR m.recs (max 1 m.prev) m.term = true

theorem right_iff {id : Nat} {m : MsgR} : rightP id m = true ↔ m.Right id := by
  unfold rightP
  simp only [Bool.and_eq_true, Bool.not_eq_true', Bool.and_eq_false_iff, decide_eq_true_eq, decide_eq_false_iff_not]
  constructor
  · rintro ⟨⟨⟨⟨⟨⟨⟨⟨⟨⟨⟨⟨⟨⟨⟨⟨⟨h1, h2⟩, h3⟩, h4⟩, h5⟩, h6⟩, h7⟩, h8⟩, h9⟩, h10⟩, h11⟩, h12⟩, h13⟩, h14⟩, h15⟩, h16⟩, h17⟩, h18⟩
    exact ⟨⟨h1, h2⟩, h3, ⟨h4, h5, h6⟩, ⟨h7, h8⟩, ⟨h9, h10⟩, ⟨h11, h12⟩, fun h => by omega, ⟨h14, h15⟩, by omega, h17, h18⟩
  · intro h
    obtain ⟨a1, a2⟩ := h.kind
    obtain ⟨b1, b2, b3⟩ := h.src
    obtain ⟨c1, c2⟩ := h.term
    obtain ⟨d1, d2⟩ := h.index
    obtain ⟨e1, e2⟩ := h.prev
    obtain ⟨f1, f2⟩ := h.commit
    have := h.len
    have := h.zero
    exact ⟨⟨⟨⟨⟨⟨⟨⟨⟨⟨⟨⟨⟨⟨⟨⟨⟨a1, a2⟩, h.to⟩, b1⟩, b2⟩, b3⟩, c1⟩, c2⟩, d1⟩, d2⟩, e1⟩, e2⟩, by omega⟩, f1⟩, f2⟩, by omega⟩, h.fits⟩, h.sound⟩

theorem soundR_iff : ∀ (l : List RecD) (least most : Int), soundR l least most = true → (∀ x ∈ l, least ≤ x.term ∧ x.term ≤ most ∧ x.data.size ≤ 2000) ∧ ∀ i j, i ≤ j → (hj : j < l.length) → (hi : i < l.length) → l[i].term ≤ l[j].term
  | [], _, _, _ => ⟨fun x hx => (by cases hx), fun i j _ hj => (by simp at hj)⟩
  | x :: l, least, most, h => by
    unfold soundR at h
    split at h
    · cases h
    rename_i h1
    simp only [Bool.or_eq_true, decide_eq_true_eq, not_or] at h1
    obtain ⟨h2, h3⟩ := soundR_iff l x.term most h
    refine ⟨fun y hy => ?_, fun i j hij hj hi => ?_⟩
    · rcases List.mem_cons.1 hy with rfl | hy
      · omega
      · have := h2 y hy; omega
    · cases i with
      | zero =>
        cases j with
        | zero => exact Int.le_refl _
        | succ j => simp only [List.getElem_cons_zero, List.getElem_cons_succ]; exact (h2 _ (List.getElem_mem _)).1
      | succ i =>
        cases j with
        | zero => omega
        | succ j => simp only [List.getElem_cons_succ]; exact h3 i j (by omega) _ _

set_option maxHeartbeats 4000000 in
theorem append_use {W w : World} {S : List Own} {Φ : PW} [Stable Φ] {b : Nat} {r : Rep} {p : Option Addr} {c : Nat} (cx : Ctx W w (repO b r p c ++ S) Φ) (hr : r.Ok) (m : MsgR) (hm : m.Right r.id) (q : Option Addr) (qc : Nat) (hsl : ∀ M w, Φ M w → Sl M w q m.recs) (hqc : m.recs.length ≤ qc) {K : Ending → World → Prop}
    (hK : OutK W S Φ b (appendP r m).1 (appendP r m).2 fun v w => K (.returned v) w) : Calls Tryd.prog F.replica_Replica_append #[.pointer (some ⟨b, 0, none⟩), m.v q qc] w K := by
  have hlen := hr.len
  have hcm := hr.commit
  obtain ⟨hs1, hs2, hs3⟩ := hm.src
  obtain ⟨hi1, hi2⟩ := hm.index
  obtain ⟨hc1, hc2⟩ := hm.commit
  have hl8 := hm.len
  have hfit := hm.fits
  have ht0 := hr.term0
  have htM := hr.termM
  have hix : m.index = (m.index.toNat : Nat) := by omega
  have hth : There q m.recs.length := (hsl _ _ cx.phi).there
  have hrok : ∀ x ∈ m.recs, x.Ok := sl_recOk (hsl _ _ cx.phi)
  have hzero : (repO b { r with role := (0 : Int) } p c) = repO b (folR r) p c := rfl
  refine (Breplica_Replica_append_run b 0 m.kind m.src m.to m.term m.index m.prev m.commit m.yes q m.recs.length qc (J := fun u w' => K (.returned u) w') cx ?_).mono fun e w' ⟨v, he, hj⟩ => by rw [he]; exact hj
  refine fun _ _ w G cx => message_use (gl cx) 3 m.src fun w cx => ⟨_, _, _, _, _, _, _, _, none, _, 0, rfl, repO b r p c ++ S, Φ, inferInstance, gr cx, fun k w G cx => ⟨cx.can 0 rfl (by simp), fun w' hw' => ?_⟩⟩
  have cx1 : Ctx W w' (repO b r p c ++ .blk k ((msgOf r 3 m.src).cells none 0) 24 :: S ++ G) Φ := sink (cx.puts 0 hw' rfl)
  have hmok0 := msg_ok0 hr (kind := 3) (to := m.src) (index := 0) (prev := 0) (yes := false) (by omega) (by omega) (by omega) (by omega)
  refine ⟨_, Φ, inferInstance, cx1, fun w G cx => ⟨r.term, cx.get 0 rfl rfl, Br.intro (fun h => fun w G cx => ⟨_, _, _, _, _, _, _, _, none, _, 0, cx.row0 2 rfl, fun w G cx => ?_⟩) (fun h => fun w G cx => ⟨r.role, cx.get 0 rfl rfl, Br.intro (fun h2 => fun w G cx => ?_) (fun h2 => fun w G cx => ⟨cx.can 0 rfl (by simp), fun w' hw' => ?_⟩)⟩)⟩⟩
  · rw [append_old (of_decide_eq_true h)] at hK
    refine reply cx hmok0 rfl hK fun q w cx hfin => ⟨_, _, _, _, none, _, 0, q, _, 1, rfl, _, _, inferInstance, cx, fun w G cx => hfin w G cx⟩
  · rw [append_lead (of_decide_eq_false h) (of_decide_eq_true h2)] at hK
    exact hK.zero (lift cx).drop1.left
  have h := of_decide_eq_false h
  have h2 := of_decide_eq_false h2
  have cx1 : Ctx W w' (repO b (folR r) p c ++ .blk k ((msgOf r 3 m.src).cells none 0) 24 :: S ++ G) Φ := gr (put_rep (gl cx) hw' (folR r) rfl rfl)
  refine ⟨_, Φ, inferInstance, cx1, fun w G cx => ⟨p, r.log.length, c, cx.get 0 rfl rfl, termAt r.log m.index.toNat, fun hle w' hw => term_dr (r := folR r) (here_of (gl cx)) hix ?_ hlen hw, Br.intro (fun h3 => ?_) (fun h3 => ?_)⟩⟩
  · simp only [Bool.not_eq_true', decide_eq_false_iff_not] at hle
    show m.index.toNat ≤ r.log.length
    omega
  · rw [append_gap h h2 h3] at hK
    refine ⟨by unfold I64; omega, fun w G cx => ⟨p, r.log.length, c, cx.get 0 rfl rfl, fun w G cx => ⟨cx.can 2 rfl (by simp), fun w' hw' => ?_⟩⟩⟩
    have cx1 : Ctx W w' (repO b (folR r) p c ++ .blk k ((nackOf r m).cells none 0) 24 :: S ++ G) Φ := cx.put 2 hw' rfl
    refine ⟨_, Φ, inferInstance, cx1, fun w G cx => ⟨_, _, _, _, _, _, _, _, none, _, 0, cx.row0 2 rfl, fun w G cx => ?_⟩⟩
    have hno : (nackOf r m).Ok := msg_ok0 hr (by omega) (by omega) (by omega) (by omega)
    refine reply (r := folR r) cx hno rfl hK fun q w cx hfin => ⟨_, _, _, _, none, _, 0, q, _, 1, rfl, _, _, inferInstance, cx, fun w G cx => hfin w G cx⟩
  have hle : m.index.toNat ≤ r.log.length := by
    simp only [Bool.or_eq_false_iff, decide_eq_false_iff_not] at h3
    omega
  have hao : (ackOf r m).Ok := msg_ok0 hr (by omega) (by omega) (by omega) (by omega)
  -- the loop over what agrees
  refine fun _ => exI_mk (fun jI a0 a1 a2 a3 a4 a5 a6 a7 a8 a9 sv tm vt fr rp rn rc sp sn sc R' Φ' kk => ∃ j : Nat, jI = j ∧ j ≤ m.recs.length ∧ sv = false ∧ tm = 0 ∧ vt = 0 ∧ fr = 0 ∧ rp = none ∧ rn = 0 ∧ rc = 0 ∧ sp = none ∧ sn = 0 ∧ sc = 0 ∧ R' = repO b (folR r) p c ++ .blk k ((msgOf r 3 m.src).cells none 0) 24 :: S ∧ Φ' = Φ ∧ kk = m.recs.length - j ∧ appK r m = j + agree (r.log.drop (m.index.toNat + j)) (m.recs.drop j))
    ⟨⟨_, Φ, _, inferInstance, fun w G cx => cx, 0, rfl, Nat.zero_le _, rfl, rfl, rfl, rfl, rfl, rfl, rfl, rfl, rfl, rfl, rfl, rfl, rfl, by simp [appK]⟩, ?_⟩
  rintro jI _ _ _ _ _ _ _ _ _ _ _ _ _ _ _ _ _ _ _ _ R1 Φ1 kk _ ⟨j, rfl, hj, rfl, rfl, rfl, rfl, rfl, rfl, rfl, rfl, rfl, rfl, rfl, rfl, rfl, hag⟩
  -- what follows when the entries are in place
  have hfin : ∀ (r2 : Rep) (p2 : Option Addr) (c2 : Nat) (Ψ : PW), Stable Ψ → r2.id = r.id → r2.term = r.term → r2.commit = r.commit → ∀ (w : World) (G : List Own), Ctx W w (repO b r2 p2 c2 ++ .blk k ((msgOf r 3 m.src).cells none 0) 24 :: S ++ G) Ψ →
      CanWrite w k 7 1 ∧ ∀ w', w' = w.setCell (Addr.mk k 7 none) (.bool true) → Ctx W w' (repO b r2 p2 c2 ++ .blk k ((⟨3, r.id, m.src, r.term, 0, 0, 0, true, []⟩ : MsgR).cells none 0) 24 :: S ++ G) Ψ :=
    fun r2 p2 c2 Ψ hst e1 e2 e3 w G cx => ⟨cx.can 2 rfl (by simp), fun w' hw' => cx.put 2 hw' rfl⟩
  have hval : m.index + (m.recs.length : Int) = (m.index + m.recs.length : Int) := rfl
  have hcv : ∀ r2 : Rep, r2.commit = r.commit → max (r2.commit : Int) (min m.commit (m.index + (m.recs.length : Int))) = ((appC r m : Nat) : Int) := fun r2 e => by rw [e]; unfold appC; omega
  refine Br.intro (fun hlt => ?_) (fun hge => ?_)
  · have hlt : j < m.recs.length := by simpa using hlt
    obtain ⟨qb, qo, rfl⟩ := hth (by omega)
    refine ⟨by omega, ptrK_intro qb qo rfl fun w G cx => ⟨m.recs[j].term, m.recs[j].data, by rw [Int.toNat_natCast]; exact sl_rec (hsl _ _ cx.phi) hlt, fun _ => ⟨by unfold I64; omega, by unfold I64; omega, fun w G cx => ⟨p, r.log.length, c, cx.get 0 rfl rfl, termAt r.log (m.index.toNat + j + 1), fun hle2 w' hw => term_dr (r := folR r) (here_of (gl cx)) (by omega) ?_ hlen hw, Br.intro (fun heq => ?_) (fun hne => ?_)⟩⟩⟩⟩
    · have := of_decide_eq_true hle2
      show m.index.toNat + j + 1 ≤ r.log.length
      omega
    · refine ⟨by unfold I64; omega, _, Φ1, m.recs.length - (j + 1), inferInstance, fun w G cx => cx, ⟨j + 1, rfl, hlt, rfl, rfl, rfl, rfl, rfl, rfl, rfl, rfl, rfl, rfl, rfl, rfl, rfl, ?_⟩, by omega⟩
      rw [agree_step hlt, if_pos] at hag
      · rw [show m.index.toNat + (j + 1) = m.index.toNat + j + 1 by omega]; omega
      · simp only [Bool.and_eq_true, decide_eq_true_eq] at heq ⊢
        exact ⟨by omega, heq.2⟩
    · rw [agree_step hlt, if_neg] at hag
      case hnc =>
        intro h'
        simp only [Bool.and_eq_true, decide_eq_true_eq, Bool.and_eq_false_iff, decide_eq_false_iff_not] at hne h'
        rcases hne with hne | hne
        · omega
        · exact hne h'.2
      have hag : appK r m = j := by omega
      refine fun w G cx => ⟨r.commit, cx.get 0 rfl rfl, Br.intro (fun h5 => fun w G cx => ?_) (fun h5 => ?_)⟩
      · rw [append_done h h2 h3 (by omega) (by have := of_decide_eq_true h5; omega)] at hK
        exact hK.zero (lift cx).drop1.left
      have h5 := of_decide_eq_false h5
      rw [append_new h h2 h3 (by omega) (by omega), hag] at hK
      have htl : (r.log.take (m.index.toNat + j)).length = m.index.toNat + j := by
        rw [List.length_take]
        have := agree_lt (r.log.drop m.index.toNat) m.recs
        rw [List.length_drop] at this
        unfold appK at hag
        omega
      have hjl : m.index.toNat + j ≤ r.log.length := by rw [List.length_take] at htl; omega
      refine ⟨by omega, fun w G cx => ?_⟩
      -- the rest is copied
      rw [Int.toNat_natCast, show m.recs.length - j = (m.recs.drop j).length by rw [List.length_drop]]
      refine CloneR_use cx (fun M w h => addr_sub (hsl M w h) j hqc) (by rw [List.length_drop]; omega) fun rp rcap w cx => ?_
      obtain ⟨_, hrc1, hrc2⟩ := cx.bufLen 0 rfl
      obtain ⟨cx2, hs, _⟩ := Ctx.freeze (α := RecD) cx (recs_elems fun x hx => hrok x (List.mem_of_mem_drop hx))
      have hst : Stable (fun M w => Φ1 M w ∧ Sl M w rp (m.recs.drop j)) := inferInstance
      refine ⟨rp, _, rcap, rfl, _, fun M w => Φ1 M w ∧ Sl M w rp (m.recs.drop j), hst, cx2.add hs, [.blk b ((folR r).cells p c) 66], fun _ _ => True, inferInstance, fun w G cx => (cx.weak fun _ _ _ => trivial).sub (List.Sublist.cons_cons _ (List.Sublist.cons _ (List.Sublist.cons _ (List.sublist_append_right _ _)))), by unfold I64; omega, p, r.log.length, c, fun w G cx => ⟨p, r.log.length, c, cx.get 0 rfl rfl, rfl⟩, ?_, fun w G cx => ?_⟩
      · have hc := (cx.bufLen 2 rfl).2.1
        have hc : r.log.length ≤ c := hc
        omega
      have hcap : r.log.length ≤ c := (cx.bufLen 1 rfl).2.1
      have hlk : (m.index + (j : Int) + 1 - 1).toNat = m.index.toNat + j := by omega
      have hsp : subPtr p 2 0 c = p := by
        unfold subPtr
        split
        · rfl
        · cases p with
          | none => rfl
          | some a => simp [Addr.add]
      rw [hlk, hsp, ← htl]
      have cx3 : Ctx W w (.blk k ((msgOf r 3 m.src).cells none 0) 24 :: S ++ G) (Aside W (repO b (folR r) p c) (fun M w => Φ1 M w ∧ Sl M w rp (m.recs.drop j))) := cx.asideF
      refine CloneR_use cx3 (fun M w h => Sl.take (log_sl h (n := r.log.length) (c := c) (List.mem_cons_of_mem _ List.mem_cons_self) hr.recs) _) (by show (r.log.take _).length < _; rw [htl]; omega) fun np ncap w cx => ?_
      have cx4 : Ctx W w (repO b (folR r) p c ++ (.buf np (r.log.take (m.index.toNat + j)).length ncap (recCells (r.log.take (m.index.toNat + j))) 27 2 :: .blk k ((msgOf r 3 m.src).cells none 0) 24 :: S) ++ G) (fun M w => Φ1 M w ∧ Sl M w rp (m.recs.drop j)) := Ctx.unasideF (T := .buf np (r.log.take (m.index.toNat + j)).length ncap (recCells (r.log.take (m.index.toNat + j))) 27 2 :: .blk k ((msgOf r 3 m.src).cells none 0) 24 :: S) cx
      refine ⟨np, _, ncap, rfl, _, _, hst, cx4, fun w G cx => (cx.weak fun _ _ _ => trivial).sub (List.Sublist.cons_cons _ (List.Sublist.cons _ (List.Sublist.cons _ (List.Sublist.cons _ (List.sublist_append_right _ _))))), fun w G cx => ?_⟩
      have cx5 := lift (Q := repO b (folR r) p c) cx
      obtain ⟨p', cap', w', news, hrun, _, cx'⟩ := Ctx.appSl (P := Tryd.prog) (α := RecD) (ts := 22) (ty := 22) (kb := #[false, false]) (bytes := 24) (c2 := rcap) cx5 (by kernel_rfl) rec_one (fun M w h => h.2) (by rw [List.length_drop]; omega) (by rw [htl, List.length_drop]; omega) (by omega)
      have hnews := (elems_recs cx'.phi.2).1
      subst hnews
      have hnl : (r.log.take (m.index.toNat + j)).length + (m.recs.drop j).length = (appR r m j).log.length := by show _ = (r.log.take (m.index.toNat + j) ++ m.recs.drop j).length; rw [List.length_append]
      have hnc : recCells (r.log.take (m.index.toNat + j)) ++ recCells (m.recs.drop j) = recCells (appR r m j).log := by rw [← recs_app]; rfl
      rw [hnl] at hrun
      rw [hnl, hnc] at cx'
      have cx6 : Ctx W w' (.buf p' (appR r m j).log.length cap' (recCells (appR r m j).log) 27 2 :: (repO b (folR r) p c ++ (.blk k ((msgOf r 3 m.src).cells none 0) 24 :: S)) ++ G) (fun M w => Φ1 M w ∧ Sl M w rp (m.recs.drop j)) := cx'.weak fun M w h => h.1
      refine ⟨p', _, cap', w', hrun, _, _, hst, cx6, fun w G cx => (cx.weak fun _ _ _ => trivial).sub (List.Sublist.cons _ (List.Sublist.cons_cons _ (List.Sublist.cons _ (List.Sublist.cons _ (List.sublist_append_right _ _))))), fun w G cx => ⟨cx.can 1 rfl (by simp), fun w' hw' => ?_⟩⟩
      -- the replica with the new log, and the old commit number
      have hcells : ((folR r).cells p c).set 3 (.slice p' (appR r m j).log.length cap') = ({ appR r m j with commit := r.commit } : Rep).cells p' cap' := by simp [Rep.cells, appR, folR]
      have cx7 : Ctx W w' (repO b { appR r m j with commit := r.commit } p' cap' ++ .blk k ((msgOf r 3 m.src).cells none 0) 24 :: S ++ G) (fun M w => Φ1 M w ∧ Sl M w rp (m.recs.drop j)) := by
        have h1 : Ctx W w' (.buf p' (appR r m j).log.length cap' (recCells (appR r m j).log) 27 2 :: .blk b (((folR r).cells p c).set 3 (.slice p' (appR r m j).log.length cap')) 66 :: .buf p r.log.length c (recCells r.log) 27 2 :: (.blk k ((msgOf r 3 m.src).cells none 0) 24 :: S ++ G)) (fun M w => Φ1 M w ∧ Sl M w rp (m.recs.drop j)) := cx.put 1 hw' rfl
        rw [hcells] at h1
        exact (h1.sub (List.Sublist.cons_cons _ (List.Sublist.cons_cons _ (List.sublist_cons_self _ _)))).swap
      refine ⟨_, _, hst, cx7, [], fun _ _ => True, inferInstance, fun w G cx => (cx.weak fun _ _ _ => trivial).right, by unfold I64; omega, fun w G cx => ?_⟩
      obtain ⟨g1, g2⟩ := hfin { appR r m j with commit := r.commit } p' cap' _ hst rfl rfl rfl w G cx
      refine ⟨g1, fun w' hw' => ⟨_, _, hst, g2 w' hw', fun w G cx => (cx.weak fun _ _ _ => trivial).right, fun w G cx => ⟨cx.can 2 rfl (by simp), fun w' hw' => ?_⟩⟩⟩
      have cx8 : Ctx W w' (repO b { appR r m j with commit := r.commit } p' cap' ++ .blk k ((ackOf r m).cells none 0) 24 :: S ++ G) (fun M w => Φ1 M w ∧ Sl M w rp (m.recs.drop j)) := cx.put 2 hw' rfl
      refine ⟨_, _, hst, cx8, fun w G cx => ⟨_, cx.get 2 rfl rfl, fun w G cx => ⟨_, cx.get 0 rfl rfl, fun w G cx => ⟨cx.can 0 rfl (by simp), fun w' hw' => ?_⟩⟩⟩⟩
      rw [show max (r.commit : Int) (min m.commit (ackOf r m).index) = ((appC r m : Nat) : Int) from hcv { appR r m j with commit := r.commit } rfl] at hw'
      have cx9 : Ctx W w' (repO b (appR r m j) p' cap' ++ .blk k ((ackOf r m).cells none 0) 24 :: S ++ G) (fun M w => Φ1 M w ∧ Sl M w rp (m.recs.drop j)) := gr (put_rep (gl cx) hw' (appR r m j) rfl rfl)
      refine ⟨_, _, hst, cx9, fun w G cx => ⟨_, _, _, _, _, _, _, _, none, _, 0, cx.row0 2 rfl, fun k2 w G cx => ?_⟩⟩
      obtain ⟨cx10, hs2⟩ := cx.freezeBlk (Elems.one (rep_msg (x := ackOf r m) hao (Nat.le_refl _) (by simp [maxLen]) Sl.nil))
      have cx11 := (lift (cx10.add (Ψ := fun M w => Sl M w (some ⟨k2, 0, none⟩) [ackOf r m]) hs2)).drop1.left
      have hkk := hK p' cap' rp rcap (some ⟨k2, 0, none⟩) 1 w hrc1 hrc2 (by simp) (by simp [maxLen]) (cx11.weak fun M w h => ⟨h.1.1, h.1.2, h.2⟩)
      rw [show m.index + (j : Int) + 1 = ((m.index.toNat + j + 1 : Nat) : Int) by omega]
      exact hkk
  · have hge : j = m.recs.length := Nat.le_antisymm hj (by simpa using hge)
    subst hge
    rw [List.drop_length] at hag
    have hag : ¬ appK r m < m.recs.length := by omega
    rw [append_same h h2 h3 hag] at hK
    refine ⟨[], fun _ _ => True, inferInstance, fun w G cx => (cx.weak fun _ _ _ => trivial).right, by unfold I64; omega, fun w G cx => ?_⟩
    obtain ⟨g1, g2⟩ := hfin (folR r) p c Φ1 inferInstance rfl rfl rfl w G cx
    refine ⟨g1, fun w' hw' => ⟨_, Φ1, inferInstance, g2 w' hw', fun w G cx => (cx.weak fun _ _ _ => trivial).right, fun w G cx => ⟨cx.can 2 rfl (by simp), fun w' hw' => ?_⟩⟩⟩
    have cx8 : Ctx W w' (repO b (folR r) p c ++ .blk k ((ackOf r m).cells none 0) 24 :: S ++ G) Φ1 := cx.put 2 hw' rfl
    refine ⟨_, Φ1, inferInstance, cx8, fun w G cx => ⟨_, cx.get 2 rfl rfl, fun w G cx => ⟨_, cx.get 0 rfl rfl, fun w G cx => ⟨cx.can 0 rfl (by simp), fun w' hw' => ?_⟩⟩⟩⟩
    rw [show max ((folR r).commit : Int) (min m.commit (ackOf r m).index) = ((appC r m : Nat) : Int) from hcv (folR r) rfl] at hw'
    have cx9 : Ctx W w' (repO b (sameR r m) p c ++ .blk k ((ackOf r m).cells none 0) 24 :: S ++ G) Φ1 := gr (put_rep (gl cx) hw' (sameR r m) rfl rfl)
    refine ⟨_, Φ1, inferInstance, cx9, fun w G cx => ⟨_, _, _, _, _, _, _, _, none, _, 0, cx.row0 2 rfl, fun k2 w G cx => ?_⟩⟩
    obtain ⟨cx10, hs2⟩ := cx.freezeBlk (Elems.one (rep_msg (x := ackOf r m) hao (Nat.le_refl _) (by simp [maxLen]) Sl.nil))
    exact hK.sent (by simp) (by simp [maxLen]) (lift (cx10.add (Ψ := fun M w => Sl M w (some ⟨k2, 0, none⟩) [ackOf r m]) hs2)).drop1.left

end Go.Proofs.YtfpgbejdlikpgaaDoor
end

/-
  Replica: Hear.
-/
section
set_option linter.unusedVariables false
set_option linter.unusedSimpArgs false
namespace Go.Proofs.YtfpgbejdlikpgaaDoor
open Go.Vc

def finO (r : Rep) (x : Rep × OutR) : Rep × OutR := if (decide (x.1.term = r.term) && decide (x.1.vote = r.vote)) = true then x else (x.1, { x.2 with save := true, term := x.1.term, vote := x.1.vote })
def upR (r : Rep) (m : MsgR) : Rep := { r with term := m.term, vote := -1, role := 0 }
def hearX (r1 : Rep) (m : MsgR) : Rep × OutR := if m.kind = 0 then voteP r1 m else if m.kind = 1 then votedP r1 m else if m.kind = 2 then appendP r1 m else appendedP r1 m

theorem hear_no {r : Rep} {m : MsgR} (h : rightP r.id m = false) : hearP r m = (r, out0) := by unfold hearP; rw [if_pos h]
theorem hear_yes {r : Rep} {m : MsgR} (h : rightP r.id m = true) : hearP r m = finO r (hearX (if r.term < m.term then upR r m else r) m) := by unfold hearP; rw [if_neg (by rw [h]; simp)]; rfl

theorem up_ok {r : Rep} (h : r.Ok) (m : MsgR) (hm : m.Right r.id) (ht : r.term < m.term) : (upR r m).Ok := by
  have h1 := h.term0
  have h2 := hm.term.2
  refine ⟨h.id, by show 0 ≤ m.term; omega, h2, by show (-1 : Int) ≤ -1; omega, by show (-1 : Int) ≤ 2; omega, ⟨h.log.lo, fun x hx => ?_, h.log.data, h.log.asc⟩, h.len, .inl rfl, h.commit, fun hr => ?_, h.bound⟩
  · have := h.log.hi x hx
    show x.term ≤ m.term
    omega
  · cases (show (0 : Int) = 2 from hr)

theorem okAgg40 : okAgg Tryd.prog 39 = true := by kernel_rfl

theorem hear_post {W : World} {S G : List Own} {Φ : PW} [Stable Φ] {b : Nat} {r : Rep} {x : Rep × OutR} {J : Value → World → Prop} (hK : OutK W S Φ b (finO r x).1 (finO r x).2 J) :
    OutK W (S ++ G) Φ b x.1 x.2 (fun v w => ∃ (c : Bool) (n1 n2 n3 : Int) (p1 : Option Addr) (k1 k2 : Nat) (p2 : Option Addr) (k3 k4 : Nat), Ending.returned v = .returned (.agg #[.bool c, .int .i64 n1, .int .i64 n2, .int .i64 n3, .slice p1 k1 k2, .slice p2 k3 k4]) ∧
      ∃ (R : List Own) (Φ' : PW), Stable Φ' ∧ Ctx W w (R ++ G) Φ' ∧ ∀ (w : World) (F : List Own), Ctx W w (R ++ F) Φ' → ∃ (a1 a2 : Int), RowAt w b (0 + 1) [.int .i64 a1, .int .i64 a2] ∧ okAgg Tryd.prog 39 = true ∧
        Br (!(decide (a1 = r.term) && (decide (a2 = r.vote) && true)))
          (∃ (R2 : List Own) (Φ2 : PW), Stable Φ2 ∧ (∀ (w : World) (F : List Own), Ctx W w (R ++ F) Φ' → Ctx W w (R2 ++ F) Φ2) ∧ ∃ (b1 b2 : Int), (∀ (w : World) (F : List Own), Ctx W w (R2 ++ F) Φ2 → ∃ (d1 d2 : Int), RowAt w b (0 + 1) [.int .i64 d1, .int .i64 d2] ∧ Value.agg #[.int .i64 d1, .int .i64 d2] = Value.agg #[.int .i64 b1, .int .i64 b2]) ∧
            (∀ (w : World) (F : List Own), Ctx W w (R ++ F) Φ' → Ctx W w (R2 ++ F) Φ2) ∧ (∀ (w : World) (F : List Own), Ctx W w (R ++ F) Φ' → Ctx W w (R2 ++ F) Φ2) ∧ ∀ (w : World) (F : List Own), Ctx W w (R ++ F) Φ' → J (.agg #[.bool true, .int .i64 b1, .int .i64 b2, .int .i64 n3, .slice p1 k1 k2, .slice p2 k3 k4]) w)
          (∀ (w : World) (F : List Own), Ctx W w (R ++ F) Φ' → J (.agg #[.bool c, .int .i64 n1, .int .i64 n2, .int .i64 n3, .slice p1 k1 k2, .slice p2 k3 k4]) w)) := by
  obtain ⟨r', o⟩ := x
  intro p' c' q1 c1 q2 c2 w h1 h2 h3 h4 cx
  have hrow : ∀ {w : World} {F : List Own}, Ctx W w (repO b r' p' c' ++ S ++ F) (OPhi Φ q1 o.recs q2 o.send) → RowAt w b (0 + 1) [.int .i64 r'.term, .int .i64 r'.vote] := fun cx => cx.row 0 rfl (rows_of (vs := [.int .i64 r'.term, .int .i64 r'.vote]) rfl)
  refine ⟨_, _, _, _, q1, _, c1, q2, _, c2, rfl, repO b r' p' c' ++ S, OPhi Φ q1 o.recs q2 o.send, inferInstance, gr cx, fun w F cx => ⟨r'.term, r'.vote, hrow cx, okAgg40, Br.intro (fun hd => ?_) (fun hd => ?_)⟩⟩
  · have hf : finO r (r', o) = (r', { o with save := true, term := r'.term, vote := r'.vote }) := by
      unfold finO
      rw [if_neg]
      intro h
      simp only [Bool.and_true, Bool.not_eq_true'] at hd
      rw [hd] at h; cases h
    rw [hf] at hK
    exact ⟨repO b r' p' c' ++ S, OPhi Φ q1 o.recs q2 o.send, inferInstance, fun w F cx => cx, r'.term, r'.vote, fun w F cx => ⟨_, _, hrow cx, rfl⟩, fun w F cx => cx, fun w F cx => cx, fun w F cx => hK p' c' q1 c1 q2 c2 w h1 h2 h3 h4 cx.left⟩
  · have hf : finO r (r', o) = (r', o) := by
      unfold finO
      rw [if_pos]
      simpa using hd
    rw [hf] at hK
    exact fun w F cx => hK p' c' q1 c1 q2 c2 w h1 h2 h3 h4 cx.left

set_option maxHeartbeats 2000000 in
theorem Hear_use {W w : World} {S : List Own} {Φ : PW} [Stable Φ] {b : Nat} {r : Rep} {p : Option Addr} {c : Nat} (cx : Ctx W w (repO b r p c ++ S) Φ) (hr : r.Ok) (m : MsgR) (hmo : m.Ok) (q : Option Addr) (qc : Nat) (hsl : ∀ M w, Φ M w → Sl M w q m.recs) (hqc : m.recs.length ≤ qc) (hqm : qc ≤ maxLen) {K : Ending → World → Prop}
    (hK : OutK W S Φ b (hearP r m).1 (hearP r m).2 fun v w => K (.returned v) w) : Calls Tryd.prog F.replica_Replica_Hear #[.pointer (some ⟨b, 0, none⟩), m.v q qc] w K := by
  refine (Breplica_Replica_Hear_run b 0 m.kind m.src m.to m.term m.index m.prev m.commit m.yes q m.recs.length qc (J := fun u w' => K (.returned u) w') cx ?_).mono fun e w' ⟨v, he, hj⟩ => by rw [he]; exact hj
  refine fun _ _ w G cx => right_use (gl cx) m q qc hsl (Nat.le_trans hqc (Nat.le_trans hqm (by decide))) hmo.index fun w cx => ⟨_, rfl, repO b r p c ++ S, Φ, inferInstance, gr cx, Br.intro (fun h => fun w G cx => ?_) (fun h => fun w G cx => ⟨r.term, r.vote, cx.row 0 rfl (rows_of (vs := [.int .i64 r.term, .int .i64 r.vote]) rfl), fun _ w G cx => ⟨r.term, cx.get 0 rfl rfl, Br.intro (fun ht => fun w G cx => ⟨cx.can 0 rfl (by simp), fun w' hw' => ?_⟩) (fun ht => ?_)⟩⟩)⟩
  · rw [hear_no (by simpa using h)] at hK
    exact hK.zero cx.left
  all_goals
    have hy : rightP r.id m = true := by simpa using h
    have hmr := right_iff.1 hy
    obtain ⟨hs1, hs2, hs3⟩ := hmr.src
    obtain ⟨hk1, hk2⟩ := hmr.kind
    obtain ⟨hi1, hi2⟩ := hmr.index
    rw [hear_yes hy] at hK
  · have ht := of_decide_eq_true ht
    rw [if_pos ht] at hK
    have hu := up_ok hr m hmr ht
    have cx1 := gr (puts_rep (gl cx) hw' { r with term := m.term, vote := -1 } rfl rfl)
    refine ⟨_, Φ, inferInstance, cx1, fun w G cx => ⟨cx.can 0 rfl (by simp), fun w' hw' => ?_⟩⟩
    have cx1 : Ctx W w' (repO b (upR r m) p c ++ S ++ G) Φ := gr (put_rep (gl cx) hw' (upR r m) rfl rfl)
    refine ⟨_, Φ, inferInstance, cx1, fun _ => Br.intro (fun k0 => fun w G cx => ?_) (fun k0 => Br.intro (fun k1 => fun w G cx => ?_) (fun k1 => Br.intro (fun k2 => fun w G cx => ?_) (fun k2 => Br.intro (fun k3 => fun w G cx => ?_) (fun k3 => ?_))))⟩
    · rw [show hearX (upR r m) m = voteP (upR r m) m by unfold hearX; rw [if_pos (of_decide_eq_true k0)]] at hK
      exact vote_use (gl cx) hu m q qc hs2 hs3 (hear_post hK)
    · rw [show hearX (upR r m) m = votedP (upR r m) m by unfold hearX; rw [if_neg (of_decide_eq_false k0), if_pos (of_decide_eq_true k1)]] at hK
      exact voted_use (gl cx) hu m q qc hs2 hs3 (hear_post hK)
    · rw [show hearX (upR r m) m = appendP (upR r m) m by unfold hearX; rw [if_neg (of_decide_eq_false k0), if_neg (of_decide_eq_false k1), if_pos (of_decide_eq_true k2)]] at hK
      exact append_use (gl cx) hu m hmr q qc hsl hqc (hear_post hK)
    · rw [show hearX (upR r m) m = appendedP (upR r m) m by unfold hearX; rw [if_neg (of_decide_eq_false k0), if_neg (of_decide_eq_false k1), if_neg (of_decide_eq_false k2)]] at hK
      exact appended_use (gl cx) hu m q qc hs2 hs3 hi1 hi2 (hear_post hK)
    · exfalso
      have := of_decide_eq_false k0; have := of_decide_eq_false k1; have := of_decide_eq_false k2; have := of_decide_eq_false k3
      omega
  · have ht := of_decide_eq_false ht
    rw [if_neg ht] at hK
    refine fun _ => Br.intro (fun k0 => fun w G cx => ?_) (fun k0 => Br.intro (fun k1 => fun w G cx => ?_) (fun k1 => Br.intro (fun k2 => fun w G cx => ?_) (fun k2 => Br.intro (fun k3 => fun w G cx => ?_) (fun k3 => ?_))))
    · rw [show hearX r m = voteP r m by unfold hearX; rw [if_pos (of_decide_eq_true k0)]] at hK
      exact vote_use (gl cx) hr m q qc hs2 hs3 (hear_post hK)
    · rw [show hearX r m = votedP r m by unfold hearX; rw [if_neg (of_decide_eq_false k0), if_pos (of_decide_eq_true k1)]] at hK
      exact voted_use (gl cx) hr m q qc hs2 hs3 (hear_post hK)
    · rw [show hearX r m = appendP r m by unfold hearX; rw [if_neg (of_decide_eq_false k0), if_neg (of_decide_eq_false k1), if_pos (of_decide_eq_true k2)]] at hK
      exact append_use (gl cx) hr m hmr q qc hsl hqc (hear_post hK)
    · rw [show hearX r m = appendedP r m by unfold hearX; rw [if_neg (of_decide_eq_false k0), if_neg (of_decide_eq_false k1), if_neg (of_decide_eq_false k2)]] at hK
      exact appended_use (gl cx) hr m q qc hs2 hs3 hi1 hi2 (hear_post hK)
    · exfalso
      have := of_decide_eq_false k0; have := of_decide_eq_false k1; have := of_decide_eq_false k2; have := of_decide_eq_false k3
      omega

end Go.Proofs.YtfpgbejdlikpgaaDoor
end

/-
  The conditions of the walks of some functions, one formula each; 'B<f>_run' says that they suffice. The formulas are printed by a program; the kernel compares them with the functions' code.
-/
section
namespace Go.Proofs.YtfpgbejdlikpgaaDoor
set_option linter.unusedVariables false
set_option linter.unusedSimpArgs false
set_option maxRecDepth 100000
open Go.Vc

/-- erratalaw08.small -/
-- known blocks: 3 one, 4 two, 5 three, 8 four, 9 five
def Berratalaw08_small  (W : World) (R : List Own) (Φ : PW) (J : Value → World → Prop) : Prop :=
  ∀ (w0 : World) (R1 : List Own), Ctx W w0 (R ++ R1) Φ → Calls Tryd.prog F.replica_New #[Value.int IntKind.i64 0, Value.agg #[Value.int IntKind.i64 0, Value.int IntKind.i64 (-1)], Value.slice
  none 0 0] w0 fun (e2 : Ending) (w3 : World) => ∃ (p4 : Option Addr), e2 = Ending.returned (Value.pointer p4) ∧ ∃ (R5 : List Own), ∃ (Φ6 : PW), Stable Φ6 ∧ Ctx W w3 (R5 ++ R1) Φ6 ∧ ∀ (w7 :
  World) (R8 : List Own), Ctx W w7 (R5 ++ R8) Φ6 → Calls Tryd.prog F.replica_New #[Value.int IntKind.i64 1, Value.agg #[Value.int IntKind.i64 0, Value.int IntKind.i64 (-1)], Value.slice none
  0 0] w7 fun (e9 : Ending) (w10 : World) => ∃ (p11 : Option Addr), e9 = Ending.returned (Value.pointer p11) ∧ ∃ (R12 : List Own), ∃ (Φ13 : PW), Stable Φ13 ∧ Ctx W w10 (R12 ++ R8) Φ13 ∧ ∀
  (w14 : World) (R15 : List Own), Ctx W w14 (R12 ++ R15) Φ13 → Br (p4.isNone || p11.isNone) (∀ (w16 : World) (R17 : List Own), Ctx W w16 (R12 ++ R17) Φ13 → J (Value.bool false) w16) (∀ (w18 :
  World) (R19 : List Own), Ctx W w18 (R12 ++ R19) Φ13 → Calls Tryd.prog F.replica_Replica_Tick #[Value.pointer p4] w18 fun (e20 : Ending) (w21 : World) => ∃ (c22 : Bool), ∃ (n23 : Int), ∃
  (n24 : Int), ∃ (n25 : Int), ∃ (p26 : Option Addr), ∃ (k27 : Nat), ∃ (k28 : Nat), ∃ (p29 : Option Addr), ∃ (k30 : Nat), ∃ (k31 : Nat), e20 = Ending.returned (Value.agg #[Value.bool c22,
  Value.int IntKind.i64 n23, Value.int IntKind.i64 n24, Value.int IntKind.i64 n25, Value.slice p26 k27 k28, Value.slice p29 k30 k31]) ∧ ∃ (R32 : List Own), ∃ (Φ33 : PW), Stable Φ33 ∧ Ctx W
  w21 (R32 ++ R19) Φ33 ∧ ∀ (b : Nat), Br (decide ((↑k30 : Int) ≠ 2)) (∀ (w34 : World) (R35 : List Own), Ctx W w34 (R32 ++ R35) Φ33 → J (Value.bool false) w34) (Br (!c22) (∀ (w36 : World) (R37
  : List Own), Ctx W w36 (R32 ++ R37) Φ33 → J (Value.bool false) w36) (okAgg Tryd.prog 39 = true ∧ Br (!(decide (n23 = 1) && (decide (n24 = 0) && true))) (∀ (w38 : World) (R39 : List Own),
  Ctx W w38 (R32 ++ R39) Φ33 → J (Value.bool false) w38) (((0 : Int) ≤ 0 ∧ 0 < (↑k30 : Int)) ∧ ptrK none p29 fun (k40 k41 : Nat) => ∀ (w42 : World) (R43 : List Own), Ctx W w42 (R32 ++ R43)
  Φ33 → ∃ (n44 : Int), ∃ (n45 : Int), ∃ (n46 : Int), ∃ (n47 : Int), ∃ (n48 : Int), ∃ (n49 : Int), ∃ (n50 : Int), ∃ (c51 : Bool), ∃ (p52 : Option Addr), ∃ (k53 : Nat), ∃ (k54 : Nat), RowAt w42
  k40 k41 [Value.int IntKind.i64 n44, Value.int IntKind.i64 n45, Value.int IntKind.i64 n46, Value.int IntKind.i64 n47, Value.int IntKind.i64 n48, Value.int IntKind.i64 n49, Value.int
  IntKind.i64 n50, Value.bool c51, Value.slice p52 k53 k54] ∧ ∀ (w55 : World) (R56 : List Own), Ctx W w55 (R32 ++ R56) Φ33 → Calls Tryd.prog F.replica_Replica_Hear #[Value.pointer p11,
  Value.agg #[Value.int IntKind.i64 n44, Value.int IntKind.i64 n45, Value.int IntKind.i64 n46, Value.int IntKind.i64 n47, Value.int IntKind.i64 n48, Value.int IntKind.i64 n49, Value.int
  IntKind.i64 n50, Value.bool c51, Value.slice p52 k53 k54]] w55 fun (e57 : Ending) (w58 : World) => ∃ (c59 : Bool), ∃ (n60 : Int), ∃ (n61 : Int), ∃ (n62 : Int), ∃ (p63 : Option Addr), ∃ (k64
  : Nat), ∃ (k65 : Nat), ∃ (p66 : Option Addr), ∃ (k67 : Nat), ∃ (k68 : Nat), e57 = Ending.returned (Value.agg #[Value.bool c59, Value.int IntKind.i64 n60, Value.int IntKind.i64 n61,
  Value.int IntKind.i64 n62, Value.slice p63 k64 k65, Value.slice p66 k67 k68]) ∧ ∃ (R69 : List Own), ∃ (Φ70 : PW), Stable Φ70 ∧ Ctx W w58 (R69 ++ R56) Φ70 ∧ ∀ (b : Nat) (w71 : World) (R72 :
  List Own), Ctx W w71 (R69 ++ R72) Φ70 → ((!decide ((↑k67 : Int) ≠ 1)) = true → (0 : Int) ≤ 0 ∧ 0 < (↑k67 : Int)) ∧ ptrK (some !decide ((↑k67 : Int) ≠ 1)) p66 fun (k73 k74 : Nat) => ∃ (c75 :
  Bool), ((!decide ((↑k67 : Int) ≠ 1)) = true → w71.cell? (Addr.mk k73 (k74 + 7) none) = some (Value.bool c75)) ∧ Br (decide ((↑k67 : Int) ≠ 1) || !c75) (∀ (w76 : World) (R77 : List Own), Ctx
  W w76 (R69 ++ R77) Φ70 → J (Value.bool false) w76) (((0 : Int) ≤ 0 ∧ 0 < (↑k67 : Int)) ∧ ptrK none p66 fun (k78 k79 : Nat) => ∀ (w80 : World) (R81 : List Own), Ctx W w80 (R69 ++ R81) Φ70 →
  ∃ (n82 : Int), ∃ (n83 : Int), ∃ (n84 : Int), ∃ (n85 : Int), ∃ (n86 : Int), ∃ (n87 : Int), ∃ (n88 : Int), ∃ (c89 : Bool), ∃ (p90 : Option Addr), ∃ (k91 : Nat), ∃ (k92 : Nat), RowAt w80 k78
  k79 [Value.int IntKind.i64 n82, Value.int IntKind.i64 n83, Value.int IntKind.i64 n84, Value.int IntKind.i64 n85, Value.int IntKind.i64 n86, Value.int IntKind.i64 n87, Value.int IntKind.i64
  n88, Value.bool c89, Value.slice p90 k91 k92] ∧ ∀ (w93 : World) (R94 : List Own), Ctx W w93 (R69 ++ R94) Φ70 → Calls Tryd.prog F.replica_Replica_Hear #[Value.pointer p4, Value.agg
  #[Value.int IntKind.i64 n82, Value.int IntKind.i64 n83, Value.int IntKind.i64 n84, Value.int IntKind.i64 n85, Value.int IntKind.i64 n86, Value.int IntKind.i64 n87, Value.int IntKind.i64
  n88, Value.bool c89, Value.slice p90 k91 k92]] w93 fun (e95 : Ending) (w96 : World) => ∃ (c97 : Bool), ∃ (n98 : Int), ∃ (n99 : Int), ∃ (n100 : Int), ∃ (p101 : Option Addr), ∃ (k102 : Nat),
  ∃ (k103 : Nat), ∃ (p104 : Option Addr), ∃ (k105 : Nat), ∃ (k106 : Nat), e95 = Ending.returned (Value.agg #[Value.bool c97, Value.int IntKind.i64 n98, Value.int IntKind.i64 n99, Value.int
  IntKind.i64 n100, Value.slice p101 k102 k103, Value.slice p104 k105 k106]) ∧ ∃ (R107 : List Own), ∃ (Φ108 : PW), Stable Φ108 ∧ Ctx W w96 (R107 ++ R94) Φ108 ∧ ∀ (b : Nat) (w109 : World)
  (R110 : List Own), Ctx W w109 (R107 ++ R110) Φ108 → Calls Tryd.prog F.replica_Replica_Propose #[Value.pointer p4, Value.string (ByteArray.mk #[OfNat.ofNat 97])] w109 fun (e111 : Ending)
  (w112 : World) => ∃ (n113 : Int), ∃ (n114 : Int), ∃ (c115 : Bool), ∃ (n116 : Int), ∃ (n117 : Int), ∃ (n118 : Int), ∃ (p119 : Option Addr), ∃ (k120 : Nat), ∃ (k121 : Nat), ∃ (p122 : Option
  Addr), ∃ (k123 : Nat), ∃ (k124 : Nat), e111 = Ending.returned (Value.tuple #[Value.int IntKind.i64 n113, Value.int IntKind.i64 n114, Value.agg #[Value.bool c115, Value.int IntKind.i64 n116,
  Value.int IntKind.i64 n117, Value.int IntKind.i64 n118, Value.slice p119 k120 k121, Value.slice p122 k123 k124]]) ∧ ∃ (R125 : List Own), ∃ (Φ126 : PW), Stable Φ126 ∧ Ctx W w112 (R125 ++
  R110) Φ126 ∧ ∀ (b : Nat) (w127 : World) (R128 : List Own), Ctx W w127 (R125 ++ R128) Φ126 → ∃ (n129 : Int), ((!decide ((↑k105 : Int) ≠ 2)) = true → ∀ (w130 : World), w130 = w127 → Calls
  Tryd.prog F.replica_Replica_Role #[Value.pointer p4] w130 fun (e131 : Ending) (w132 : World) => e131 = Ending.returned (Value.int IntKind.i64 n129) ∧ w132 = w127) ∧ Br (decide ((↑k105 :
  Int) ≠ 2) || decide (n129 ≠ 2) || decide (n113 ≠ 1) || decide (n114 ≠ 0) || decide ((↑k123 : Int) ≠ 2)) (∀ (w133 : World) (R134 : List Own), Ctx W w133 (R125 ++ R134) Φ126 → J (Value.bool
  false) w133) (((0 : Int) ≤ 0 ∧ 0 < (↑k123 : Int)) ∧ ptrK none p122 fun (k135 k136 : Nat) => ∀ (w137 : World) (R138 : List Own), Ctx W w137 (R125 ++ R138) Φ126 → ∃ (n139 : Int), ∃ (n140 :
  Int), ∃ (n141 : Int), ∃ (n142 : Int), ∃ (n143 : Int), ∃ (n144 : Int), ∃ (n145 : Int), ∃ (c146 : Bool), ∃ (p147 : Option Addr), ∃ (k148 : Nat), ∃ (k149 : Nat), RowAt w137 k135 k136
  [Value.int IntKind.i64 n139, Value.int IntKind.i64 n140, Value.int IntKind.i64 n141, Value.int IntKind.i64 n142, Value.int IntKind.i64 n143, Value.int IntKind.i64 n144, Value.int
  IntKind.i64 n145, Value.bool c146, Value.slice p147 k148 k149] ∧ ∀ (w150 : World) (R151 : List Own), Ctx W w150 (R125 ++ R151) Φ126 → Calls Tryd.prog F.replica_Replica_Hear #[Value.pointer
  p11, Value.agg #[Value.int IntKind.i64 n139, Value.int IntKind.i64 n140, Value.int IntKind.i64 n141, Value.int IntKind.i64 n142, Value.int IntKind.i64 n143, Value.int IntKind.i64 n144,
  Value.int IntKind.i64 n145, Value.bool c146, Value.slice p147 k148 k149]] w150 fun (e152 : Ending) (w153 : World) => ∃ (c154 : Bool), ∃ (n155 : Int), ∃ (n156 : Int), ∃ (n157 : Int), ∃ (p158
  : Option Addr), ∃ (k159 : Nat), ∃ (k160 : Nat), ∃ (p161 : Option Addr), ∃ (k162 : Nat), ∃ (k163 : Nat), e152 = Ending.returned (Value.agg #[Value.bool c154, Value.int IntKind.i64 n155,
  Value.int IntKind.i64 n156, Value.int IntKind.i64 n157, Value.slice p158 k159 k160, Value.slice p161 k162 k163]) ∧ ∃ (R164 : List Own), ∃ (Φ165 : PW), Stable Φ165 ∧ Ctx W w153 (R164 ++
  R151) Φ165 ∧ ∀ (b : Nat) (w166 : World) (R167 : List Own), Ctx W w166 (R164 ++ R167) Φ165 → Br (decide ((↑k162 : Int) ≠ 1) || decide (n157 ≠ 1)) (∀ (w168 : World) (R169 : List Own), Ctx W
  w168 (R164 ++ R169) Φ165 → J (Value.bool false) w168) (((0 : Int) ≤ 0 ∧ 0 < (↑k162 : Int)) ∧ ptrK none p161 fun (k170 k171 : Nat) => ∀ (w172 : World) (R173 : List Own), Ctx W w172 (R164 ++
  R173) Φ165 → ∃ (n174 : Int), ∃ (n175 : Int), ∃ (n176 : Int), ∃ (n177 : Int), ∃ (n178 : Int), ∃ (n179 : Int), ∃ (n180 : Int), ∃ (c181 : Bool), ∃ (p182 : Option Addr), ∃ (k183 : Nat), ∃ (k184
  : Nat), RowAt w172 k170 k171 [Value.int IntKind.i64 n174, Value.int IntKind.i64 n175, Value.int IntKind.i64 n176, Value.int IntKind.i64 n177, Value.int IntKind.i64 n178, Value.int
  IntKind.i64 n179, Value.int IntKind.i64 n180, Value.bool c181, Value.slice p182 k183 k184] ∧ ∀ (w185 : World) (R186 : List Own), Ctx W w185 (R164 ++ R186) Φ165 → Calls Tryd.prog
  F.replica_Replica_Hear #[Value.pointer p4, Value.agg #[Value.int IntKind.i64 n174, Value.int IntKind.i64 n175, Value.int IntKind.i64 n176, Value.int IntKind.i64 n177, Value.int IntKind.i64
  n178, Value.int IntKind.i64 n179, Value.int IntKind.i64 n180, Value.bool c181, Value.slice p182 k183 k184]] w185 fun (e187 : Ending) (w188 : World) => ∃ (c189 : Bool), ∃ (n190 : Int), ∃
  (n191 : Int), ∃ (n192 : Int), ∃ (p193 : Option Addr), ∃ (k194 : Nat), ∃ (k195 : Nat), ∃ (p196 : Option Addr), ∃ (k197 : Nat), ∃ (k198 : Nat), e187 = Ending.returned (Value.agg #[Value.bool
  c189, Value.int IntKind.i64 n190, Value.int IntKind.i64 n191, Value.int IntKind.i64 n192, Value.slice p193 k194 k195, Value.slice p196 k197 k198]) ∧ ∃ (R199 : List Own), ∃ (Φ200 : PW),
  Stable Φ200 ∧ Ctx W w188 (R199 ++ R186) Φ200 ∧ ∀ (w201 : World) (R202 : List Own), Ctx W w201 (R199 ++ R202) Φ200 → Calls Tryd.prog F.replica_Replica_Commit #[Value.pointer p4] w201 fun
  (e203 : Ending) (w204 : World) => ∃ (n205 : Int), e203 = Ending.returned (Value.int IntKind.i64 n205) ∧ ∃ (R206 : List Own), ∃ (Φ207 : PW), Stable Φ207 ∧ Ctx W w204 (R206 ++ R202) Φ207 ∧ Br
  (decide (n205 = 1)) (∀ (w208 : World) (R209 : List Own), Ctx W w208 (R206 ++ R209) Φ207 → Calls Tryd.prog F.replica_Replica_Log #[Value.pointer p4] w208 fun (e210 : Ending) (w211 : World)
  => ∃ (p212 : Option Addr), ∃ (k213 : Nat), ∃ (k214 : Nat), e210 = Ending.returned (Value.slice p212 k213 k214) ∧ ∃ (R215 : List Own), ∃ (Φ216 : PW), Stable Φ216 ∧ Ctx W w211 (R215 ++ R209)
  Φ216 ∧ Br (decide ((↑k213 : Int) = 1)) (∀ (w217 : World) (R218 : List Own), Ctx W w217 (R215 ++ R218) Φ216 → Calls Tryd.prog F.replica_Replica_Log #[Value.pointer p11] w217 fun (e219 :
  Ending) (w220 : World) => ∃ (p221 : Option Addr), ∃ (k222 : Nat), ∃ (k223 : Nat), e219 = Ending.returned (Value.slice p221 k222 k223) ∧ ∃ (R224 : List Own), ∃ (Φ225 : PW), Stable Φ225 ∧ Ctx
  W w220 (R224 ++ R218) Φ225 ∧ ∀ (w226 : World) (R227 : List Own), Ctx W w226 (R224 ++ R227) Φ225 → J (Value.bool (decide ((↑k222 : Int) = 1))) w226) (∀ (w228 : World) (R229 : List Own), Ctx
  W w228 (R215 ++ R229) Φ216 → J (Value.bool false) w228)) (∀ (w230 : World) (R231 : List Own), Ctx W w230 (R206 ++ R231) Φ207 → J (Value.bool false) w230))))))))

theorem Berratalaw08_small_run  {W w : World} {R : List Own} {Φ : PW} [Stable Φ] {J : Value → World → Prop} (c : Ctx W w R Φ) (h : Berratalaw08_small  W R Φ J) : Calls Tryd.prog F.erratalaw08_small #[] w fun e w' => ∃ v, e = .returned v ∧ J v w' :=
  vcFS_sound (H := { keep := some [0, 1, 2, 3, 4, 5, 6, 7, 8, 9, 19, 36, 54, 89, 104], track := [3, 4, 5, 8, 9], split := [6, 19] }) (by rw [show vcFS Tryd.prog W { keep := some [0, 1, 2, 3, 4, 5, 6, 7, 8, 9, 19, 36, 54, 89, 104], track := [3, 4, 5, 8, 9], split := [6, 19] } F.erratalaw08_small #[] R Φ J = Berratalaw08_small  W R Φ J by kernel_rfl]; exact h) c

/-- errataref08.SameRecs -/
-- loop at region 4: 5 i; blocks 
def Berrataref08_SameRecs (aP : Option Addr) (aN aC : Nat) (bP : Option Addr) (bN bC : Nat) (W : World) (R : List Own) (Φ : PW) (J : Value → World → Prop) : Prop :=
  Br (decide ((↑aN : Int) ≠ (↑bN : Int))) (∀ (w0 : World) (R1 : List Own), Ctx W w0 (R ++ R1) Φ → J (Value.bool false) w0) (exI fun (I2 : Int → List Own → PW → Nat → Prop) => (∃ (R3 : List
  Own), ∃ (Φ4 : PW), ∃ (k5 : Nat), Stable Φ4 ∧ (∀ (w6 : World) (R7 : List Own), Ctx W w6 (R ++ R7) Φ → Ctx W w6 (R3 ++ R7) Φ4) ∧ I2 0 R3 Φ4 k5) ∧ ∀ (n8 : Int) (R9 : List Own) (I10 : List Nat
  → World → Prop) (k11 : Nat), Stable I10 → I2 n8 R9 I10 k11 → Br (decide (n8 < (↑aN : Int))) (∀ (w12 : World) (R13 : List Own), Ctx W w12 (R9 ++ R13) I10 → (0 ≤ n8 ∧ n8 < (↑aN : Int)) ∧ ptrK
  none aP fun (k14 k15 : Nat) => ∃ (n16 : Int), ∃ (s17 : ByteArray), RowAt w12 k14 (k15 + n8.toNat * 2) [Value.int IntKind.i64 n16, Value.string s17] ∧ (0 ≤ n8 ∧ n8 < (↑bN : Int)) ∧ ptrK none
  bP fun (k18 k19 : Nat) => ∃ (n20 : Int), ∃ (s21 : ByteArray), RowAt w12 k18 (k19 + n8.toNat * 2) [Value.int IntKind.i64 n20, Value.string s21] ∧ okAgg Tryd.prog 27 = true ∧ Br (!(decide
  (n16 = n20) && (decide (s17 = s21) && true))) (∀ (w22 : World) (R23 : List Own), Ctx W w22 (R9 ++ R23) I10 → J (Value.bool false) w22) (I64 (n8 + 1) ∧ ∃ (R24 : List Own), ∃ (Φ25 : PW), ∃
  (k26 : Nat), Stable Φ25 ∧ (∀ (w27 : World) (R28 : List Own), Ctx W w27 (R9 ++ R28) I10 → Ctx W w27 (R24 ++ R28) Φ25) ∧ I2 (n8 + 1) R24 Φ25 k26 ∧ k26 < k11)) (∀ (w29 : World) (R30 : List
  Own), Ctx W w29 (R9 ++ R30) I10 → J (Value.bool true) w29))

theorem Berrataref08_SameRecs_run (aP : Option Addr) (aN aC : Nat) (bP : Option Addr) (bN bC : Nat) {W w : World} {R : List Own} {Φ : PW} [Stable Φ] {J : Value → World → Prop} (c : Ctx W w R Φ) (h : Berrataref08_SameRecs aP aN aC bP bN bC W R Φ J) : Calls Tryd.prog F.errataref08_SameRecs #[.slice aP aN aC, .slice bP bN bC] w fun e w' => ∃ v, e = .returned v ∧ J v w' :=
  vcFS_sound (H := { keep := some [0, 1, 4, 5, 10, 14, 25], loops := [(4, [(5, .one (.int .i64))], [])] }) (by rw [show vcFS Tryd.prog W { keep := some [0, 1, 4, 5, 10, 14, 25], loops := [(4, [(5, .one (.int .i64))], [])] } F.errataref08_SameRecs #[.slice aP aN aC, .slice bP bN bC] R Φ J = Berrataref08_SameRecs aP aN aC bP bN bC W R Φ J by kernel_rfl]; exact h) c

end Go.Proofs.YtfpgbejdlikpgaaDoor
end

/-
  Three replicas, what they have stored, and messages: in plain Lean, and where they lie; pick, few, SameRecs.
-/
section
set_option linter.unusedVariables false
set_option linter.unusedSimpArgs false
namespace Go.Proofs.YtfpgbejdlikpgaaDoor
open Go.Vc

/-! ### in plain Lean -/
structure Node where
  rep : Rep
  sterm : Int
  svote : Int
  slog : List RecD
  stop : Int

structure Cl where
  nd : Nat → Node
  sent : List MsgR

/-! ### few -/
structure OpR where
  op : Int
  who : Int
  n : Int
  data : ByteArray
instance : Gv OpR := Gv.via (β := Int × Int × Int × ByteArray) (fun x => (x.op, x.who, x.n, x.data)) (fun y => ⟨y.1, y.2.1, y.2.2.1, y.2.2.2⟩) (fun _ => rfl)

/-! ### SameRecs -/
theorem okAgg55 : okAgg Tryd.prog 27 = true := by kernel_rfl

theorem SameRecs_in {Φ : PW} [Stable Φ] (p q : Option Addr) (cap cap2 : Nat) (a b : List RecD) (hΦ : ∀ M w, Φ M w → Sl M w p a) (hΨ : ∀ M w, Φ M w → Sl M w q b) (hlen : a.length ≤ 1000000) :
    GivesIn Φ Tryd.prog F.errataref08_SameRecs #[.slice p a.length cap, .slice q b.length cap2] (.bool (decide (a = b))) := by
  refine .there (fun M w h => (hΦ M w h).there) fun hth => .there (fun M w h => (hΨ M w h).there) fun hth2 => ?_
  refine gives_in (Berrataref08_SameRecs_run p a.length cap q b.length cap2) fun W R => ?_
  refine Br.intro (fun h => fun w G cx => ⟨?_, cx.left⟩) (fun h => ?_)
  · rw [decide_eq_false]
    intro e
    have := of_decide_eq_true h
    rw [e] at this
    exact this rfl
  have hl : a.length = b.length := by have := of_decide_eq_false h; omega
  refine exI_mk (fun iI R' Φ' k => ∃ i : Nat, iI = i ∧ i ≤ a.length ∧ R' = R ∧ Φ' = Φ ∧ k = a.length - i ∧ a.take i = b.take i) ⟨⟨R, Φ, _, inferInstance, fun w F c => c, 0, rfl, Nat.zero_le _, rfl, rfl, rfl, rfl⟩, ?_⟩
  rintro iI R1 Φ1 k _ ⟨i, rfl, hi, rfl, rfl, rfl, hs⟩
  refine Br.intro (fun hlt => fun w G cx => ?_) (fun hge => fun w F cx => ⟨?_, cx.left⟩)
  · have hlt : i < a.length := by simpa using hlt
    have hltb : i < b.length := by omega
    obtain ⟨b1, o1, rfl⟩ := hth (by omega)
    obtain ⟨b2, o2, rfl⟩ := hth2 (by omega)
    refine ⟨by omega, ptrK_intro b1 o1 rfl ⟨a[i].term, a[i].data, by rw [Int.toNat_natCast]; exact sl_rec (hΦ _ _ cx.phi) hlt, by omega, ptrK_intro b2 o2 rfl ⟨b[i].term, b[i].data, by rw [Int.toNat_natCast]; exact sl_rec (hΨ _ _ cx.phi) hltb, okAgg55, Br.intro (fun h => fun w G cx => ⟨?_, cx.left⟩) (fun h => ⟨by unfold I64; omega, R1, Φ1, a.length - (i + 1), inferInstance, fun w F c => c, ⟨i + 1, rfl, hlt, rfl, rfl, rfl, ?_⟩, by omega⟩)⟩⟩⟩
    · rw [decide_eq_false]
      intro e
      subst e
      simp at h
    · have he : a[i] = b[i] := by
        simp only [Bool.not_eq_false', Bool.and_true, Bool.and_eq_true, decide_eq_true_eq] at h
        exact rec_ext.2 h
      rw [List.take_succ_eq_append_getElem hlt, List.take_succ_eq_append_getElem hltb, hs, he]
  · have hge : i = a.length := Nat.le_antisymm hi (by simpa using hge)
    rw [decide_eq_true]
    rw [hge, List.take_length, hl, List.take_length] at hs
    exact hs

/-! ### where it lies -/
structure Lay where
  x : Nat
  rp : Option Addr
  rc : Nat
  sp : Option Addr
  sc : Nat
  tp : Option Addr
  tc : Nat
  mc : List Value
  b : Nat → Nat
  p : Nat → Option Addr
  c : Nat → Nat
  lp : Nat → Option Addr
  lc : Nat → Nat

def LogS (M : List Nat) (w : World) (p : Option Addr) (c : Nat) (l : List RecD) : Prop := l.length ≤ c ∧ Sl M w p l
instance logs_stable (p : Option Addr) (c : Nat) (l : List RecD) : Stable (fun M w => LogS M w p c l) := instStableAnd (fun _ _ => l.length ≤ c) (fun M w => Sl M w p l)

def ClS (L : Lay) (C : Cl) : PW := fun M w => Elems M w L.mc C.sent ∧ (LogS M w (L.lp 0) (L.lc 0) (C.nd 0).slog ∧ LogS M w (L.lp 1) (L.lc 1) (C.nd 1).slog ∧ LogS M w (L.lp 2) (L.lc 2) (C.nd 2).slog)
instance cls_stable (L : Lay) (C : Cl) : Stable (ClS L C) :=
  have h1 : Stable (fun M w => Elems M w L.mc C.sent) := instStableElems L.mc C.sent
  have h2 : Stable (fun M w => LogS M w (L.lp 1) (L.lc 1) (C.nd 1).slog ∧ LogS M w (L.lp 2) (L.lc 2) (C.nd 2).slog) := instStableAnd (fun M w => LogS M w (L.lp 1) (L.lc 1) (C.nd 1).slog) (fun M w => LogS M w (L.lp 2) (L.lc 2) (C.nd 2).slog)
  have h3 : Stable (fun M w => LogS M w (L.lp 0) (L.lc 0) (C.nd 0).slog ∧ LogS M w (L.lp 1) (L.lc 1) (C.nd 1).slog ∧ LogS M w (L.lp 2) (L.lc 2) (C.nd 2).slog) := instStableAnd (fun M w => LogS M w (L.lp 0) (L.lc 0) (C.nd 0).slog) (fun M w => LogS M w (L.lp 1) (L.lc 1) (C.nd 1).slog ∧ LogS M w (L.lp 2) (L.lc 2) (C.nd 2).slog)
  instStableAnd (fun M w => Elems M w L.mc C.sent) (fun M w => LogS M w (L.lp 0) (L.lc 0) (C.nd 0).slog ∧ LogS M w (L.lp 1) (L.lc 1) (C.nd 1).slog ∧ LogS M w (L.lp 2) (L.lc 2) (C.nd 2).slog)

theorem ClS.logs {L : Lay} {C : Cl} {M : List Nat} {w : World} (h : ClS L C M w) {i : Nat} (hi : i < 3) : LogS M w (L.lp i) (L.lc i) (C.nd i).slog := by
  match i, hi with
  | 0, _ => exact h.2.1
  | 1, _ => exact h.2.2.1
  | 2, _ => exact h.2.2.2
theorem ClS.log {L : Lay} {C : Cl} {M : List Nat} {w : World} (h : ClS L C M w) {i : Nat} (hi : i < 3) : Sl M w (L.lp i) (C.nd i).slog := (h.logs hi).2

/-- the places of replica i are others -/
def Lay.at (L : Lay) (i b : Nat) (p : Option Addr) (c : Nat) : Lay := { L with b := put L.b i b, p := put L.p i p, c := put L.c i c }

end Go.Proofs.YtfpgbejdlikpgaaDoor
end

/-
  Replica, plain: what each call keeps, and what its result says.
-/
section
set_option linter.unusedVariables false
set_option linter.unusedSimpArgs false
namespace Go.Proofs.YtfpgbejdlikpgaaDoor
open Go.Vc

/-- a replica that may be found -/
structure Rep.Wf (r : Rep) : Prop where
  ok : r.Ok
  one : r.role ≠ 0 → 1 ≤ r.term

/-- the result tells what has changed of what is stored -/
structure Fits (r r' : Rep) (o : OutR) : Prop where
  id : r'.id = r.id
  save : o.save = true → o.term = r'.term ∧ o.vote = r'.vote
  keep : o.save = false → r'.term = r.term ∧ r'.vote = r.vote
  log : 0 < o.src → r'.log = r.log.take (min (o.src - 1) (r.log.length : Int)).toNat ++ o.recs
  same : ¬ 0 < o.src → r'.log = r.log
  term : r.term ≤ r'.term

theorem Fits.refl (r : Rep) : Fits r r out0 := ⟨rfl, fun h => (by cases h), fun _ => ⟨rfl, rfl⟩, fun h => (by cases h), fun _ => rfl, Int.le_refl _⟩

theorem sorted_take {l : List RecD} {t : Int} (h : Sorted l t) (k : Nat) : Sorted (l.take k) t :=
  ⟨fun x hx => h.lo x (List.mem_of_mem_take hx), fun x hx => h.hi x (List.mem_of_mem_take hx), fun x hx => h.data x (List.mem_of_mem_take hx), fun i j hij hj hi => by
    rw [List.getElem_take, List.getElem_take]
    exact h.asc i j hij (by simp at hj; omega) (by simp at hi; omega)⟩

theorem sorted_app {a b : List RecD} {t : Int} (ha : Sorted a t) (hb : Sorted b t) (h : ∀ x ∈ a, ∀ y ∈ b, x.term ≤ y.term) : Sorted (a ++ b) t := by
  refine ⟨fun x hx => ?_, fun x hx => ?_, fun x hx => ?_, fun i j hij hj hi => ?_⟩
  · rcases List.mem_append.1 hx with hx | hx
    · exact ha.lo x hx
    · exact hb.lo x hx
  · rcases List.mem_append.1 hx with hx | hx
    · exact ha.hi x hx
    · exact hb.hi x hx
  · rcases List.mem_append.1 hx with hx | hx
    · exact ha.data x hx
    · exact hb.data x hx
  · rw [List.length_append] at hj hi
    by_cases hja : j < a.length
    · rw [List.getElem_append_left hja, List.getElem_append_left (by omega)]
      exact ha.asc i j hij hja (by omega)
    · rw [List.getElem_append_right (show a.length ≤ j by omega)]
      by_cases hia : i < a.length
      · rw [List.getElem_append_left hia]
        exact h _ (List.getElem_mem hia) _ (List.getElem_mem _)
      · rw [List.getElem_append_right (show a.length ≤ i by omega)]
        exact hb.asc (i - a.length) (j - a.length) (by omega) (by omega) (by omega)

theorem sorted_up {l : List RecD} {t u : Int} (h : Sorted l t) (hu : t ≤ u) : Sorted l u := ⟨h.lo, fun x hx => Int.le_trans (h.hi x hx) hu, h.data, h.asc⟩

theorem sorted_drop {l : List RecD} {t : Int} (h : Sorted l t) (k : Nat) : Sorted (l.drop k) t :=
  ⟨fun x hx => h.lo x (List.mem_of_mem_drop hx), fun x hx => h.hi x (List.mem_of_mem_drop hx), fun x hx => h.data x (List.mem_of_mem_drop hx), fun i j hij hj hi => by
    rw [List.getElem_drop, List.getElem_drop]
    exact h.asc (k + i) (k + j) (by omega) (by simp at hj; omega) (by simp at hi; omega)⟩

theorem right_sorted {id : Nat} {m : MsgR} (h : m.Right id) : Sorted m.recs m.term ∧ ∀ x ∈ m.recs, m.prev ≤ x.term := by
  obtain ⟨h1, h2⟩ := soundR_iff _ _ _ h.sound
  exact ⟨⟨fun x hx => by have := (h1 x hx).1; omega, fun x hx => (h1 x hx).2.1, fun x hx => (h1 x hx).2.2, h2⟩, fun x hx => by have := (h1 x hx).1; omega⟩

theorem last_le {l : List RecD} {t : Int} (h : Sorted l t) {k : Nat} (hk : k ≤ l.length) : ∀ x ∈ l.take k, x.term ≤ termAt l k := by
  intro x hx
  obtain ⟨i, hi, rfl⟩ := List.getElem_of_mem hx
  rw [List.length_take] at hi
  rw [List.getElem_take]
  obtain ⟨j, rfl⟩ : ∃ j, k = j + 1 := ⟨k - 1, by omega⟩
  rw [termAt_succ (by omega)]
  exact h.asc i j (by omega) (by omega) (by omega)

/-- the entries that agree have the same terms -/
theorem agree_terms : ∀ (a b : List RecD) (i : Nat), i < agree a b → ∃ (ha : i < a.length) (hb : i < b.length), a[i].term = b[i].term
  | [], b, i, h => by cases b <;> simp [agree] at h
  | x :: a, [], i, h => by simp [agree] at h
  | x :: a, y :: b, i, h => by
    unfold agree at h
    split at h
    · rename_i hxy
      cases i with
      | zero => exact ⟨by simp, by simp, by simpa using hxy⟩
      | succ i =>
        obtain ⟨h1, h2, h3⟩ := agree_terms a b i (by omega)
        exact ⟨by simp; omega, by simp; omega, by simpa using h3⟩
    · omega

theorem app_sorted {r : Rep} (hr : r.Ok) {m : MsgR} (hm : m.Right r.id) (ht : ¬ m.term < r.term) (hle : m.index.toNat ≤ r.log.length) (hp : termAt r.log m.index.toNat = m.prev) : Sorted (r.log.take (m.index.toNat + appK r m) ++ m.recs.drop (appK r m)) m.term := by
  obtain ⟨h1, h2⟩ := right_sorted hm
  have hk := agree_lt (r.log.drop m.index.toNat) m.recs
  rw [List.length_drop] at hk
  refine sorted_app (sorted_up (sorted_take hr.log _) (by omega)) (sorted_drop h1 _) fun x hx y hy => ?_
  have hle2 : m.index.toNat + appK r m ≤ r.log.length := by unfold appK; omega
  have hx := last_le hr.log hle2 x hx
  refine Int.le_trans hx ?_
  obtain ⟨j, hj, rfl⟩ := List.getElem_of_mem hy
  rw [List.getElem_drop]
  have hj2 : appK r m + j < m.recs.length := by rw [List.length_drop] at hj; omega
  by_cases hz : appK r m = 0
  · have e : termAt r.log (m.index.toNat + appK r m) = m.prev := by rw [hz, Nat.add_zero, hp]
    rw [e]
    exact h2 _ (List.getElem_mem _)
  · obtain ⟨i, hi⟩ : ∃ i, appK r m = i + 1 := ⟨appK r m - 1, by omega⟩
    obtain ⟨a1, a2, a3⟩ := agree_terms (r.log.drop m.index.toNat) m.recs i (by unfold appK at hi; omega)
    rw [List.getElem_drop] at a3
    have e : termAt r.log (m.index.toNat + appK r m) = m.recs[i].term := by
      rw [hi, show m.index.toNat + (i + 1) = m.index.toNat + i + 1 by omega, termAt_succ (by omega), a3]
    rw [e]
    exact h1.asc i (appK r m + j) (by omega) hj2 a2

theorem app_len {r : Rep} {m : MsgR} (hle : m.index.toNat ≤ r.log.length) : (r.log.take (m.index.toNat + appK r m) ++ m.recs.drop (appK r m)).length = m.index.toNat + m.recs.length := by
  have hk := agree_lt (r.log.drop m.index.toNat) m.recs
  have hk2 := agree_le (r.log.drop m.index.toNat) m.recs
  rw [List.length_drop] at hk
  rw [List.length_append, List.length_take, List.length_drop]
  unfold appK
  omega

/-! ### each call -/
theorem vote_wf {r : Rep} (h : r.Wf) {m : MsgR} (h1 : 0 ≤ m.src ∧ m.src ≤ 2) : (voteP r m).1.Wf ∧ (voteP r m).1.id = r.id ∧ (voteP r m).1.term = r.term ∧ (voteP r m).1.log = r.log ∧ (voteP r m).2.src = 0 := by
  unfold voteP
  split
  · exact ⟨⟨⟨h.ok.id, h.ok.term0, h.ok.termM, by show -1 ≤ m.src; omega, h1.2, h.ok.log, h.ok.len, h.ok.role, h.ok.commit, h.ok.next, h.ok.bound⟩, h.one⟩, rfl, rfl, rfl, rfl⟩
  · exact ⟨h, rfl, rfl, rfl, rfl⟩

theorem voted_wf {r : Rep} (h : r.Wf) {m : MsgR} : (votedP r m).1.Wf ∧ (votedP r m).1.id = r.id ∧ (votedP r m).1.term = r.term ∧ (votedP r m).1.vote = r.vote ∧ (votedP r m).1.log = r.log ∧ (votedP r m).2.src = 0 := by
  by_cases hc : (decide (r.role ≠ 1) || decide (m.term ≠ r.term) || !m.yes) = true
  · rw [voted_no hc]; exact ⟨h, rfl, rfl, rfl, rfl, rfl⟩
  have hc : (decide (r.role ≠ 1) || decide (m.term ≠ r.term) || !m.yes) = false := by simpa using hc
  have hrole : r.role = 1 := by simp only [Bool.or_eq_false_iff, decide_eq_false_iff_not] at hc; exact Decidable.not_not.1 hc.1.1
  by_cases h2 : countV (voteR r m).votes < 2
  · rw [voted_few hc h2]
    exact ⟨⟨⟨h.ok.id, h.ok.term0, h.ok.termM, h.ok.vote0, h.ok.voteM, h.ok.log, h.ok.len, h.ok.role, h.ok.commit, h.ok.next, h.ok.bound⟩, h.one⟩, rfl, rfl, rfl, rfl, rfl⟩
  · rw [voted_lead hc h2]
    exact ⟨⟨lead_ok h.ok m, fun _ => h.one (by rw [hrole]; decide)⟩, rfl, rfl, rfl, rfl, rfl⟩

theorem appended_wf {r : Rep} (h : r.Wf) {m : MsgR} (hi : 0 ≤ m.index) : (appendedP r m).1.Wf ∧ (appendedP r m).1.id = r.id ∧ (appendedP r m).1.term = r.term ∧ (appendedP r m).1.vote = r.vote ∧ (appendedP r m).1.log = r.log ∧ (appendedP r m).2.src = 0 := by
  by_cases hc : (decide (r.role ≠ 2) || decide (m.term ≠ r.term) || m.yes && decide ((r.log.length : Int) < m.index)) = true
  · rw [appended_no hc]; exact ⟨h, rfl, rfl, rfl, rfl, rfl⟩
  have hc : (decide (r.role ≠ 2) || decide (m.term ≠ r.term) || m.yes && decide ((r.log.length : Int) < m.index)) = false := by simpa using hc
  have hrole : r.role = 2 := by simp only [Bool.or_eq_false_iff, decide_eq_false_iff_not] at hc; exact Decidable.not_not.1 hc.1.1
  cases hy : m.yes with
  | false =>
    rw [appended_back hc hy]
    exact ⟨⟨back_ok h.ok hrole m, h.one⟩, rfl, rfl, rfl, rfl, rfl⟩
  | true =>
    rw [appended_fwd hc hy]
    have hix : m.index.toNat ≤ r.log.length := by
      simp only [Bool.or_eq_false_iff, decide_eq_false_iff_not, hy, Bool.true_and] at hc
      have := hc.2; omega
    have ha := adv_ok (fwd_ok h.ok hrole m hix) hrole
    obtain ⟨e1, e2, e3, e4, e5, e6, e7⟩ := adv_eq (fwdR r m)
    have hw : (advanceP (fwdR r m)).Wf := ⟨ha, fun _ => by rw [e6]; exact h.one (by rw [hrole]; decide)⟩
    split
    · exact ⟨hw, e5, e6, e7, e2, rfl⟩
    · exact ⟨hw, e5, e6, e7, e2, rfl⟩

theorem fol_wf {r : Rep} (h : r.Wf) : (folR r).Wf := ⟨⟨h.ok.id, h.ok.term0, h.ok.termM, h.ok.vote0, h.ok.voteM, h.ok.log, h.ok.len, .inl rfl, h.ok.commit, fun hr => (by cases (show (0 : Int) = 2 from hr)), h.ok.bound⟩, fun hr => absurd rfl hr⟩

theorem append_wf {r : Rep} (h : r.Wf) {m : MsgR} (hm : m.Right r.id) (heq : m.term ≤ r.term) : (appendP r m).1.Wf ∧ (appendP r m).1.id = r.id ∧ (appendP r m).1.term = r.term ∧ (appendP r m).1.vote = r.vote ∧
    (0 < (appendP r m).2.src → (appendP r m).1.log = r.log.take (min ((appendP r m).2.src - 1) (r.log.length : Int)).toNat ++ (appendP r m).2.recs) ∧ (¬ 0 < (appendP r m).2.src → (appendP r m).1.log = r.log) ∧ (appendP r m).2.save = false := by
  by_cases h1 : m.term < r.term
  · rw [append_old h1]; exact ⟨h, rfl, rfl, rfl, fun h => (by cases h), fun _ => rfl, rfl⟩
  by_cases h2 : r.role = 2
  · rw [append_lead h1 h2]; exact ⟨h, rfl, rfl, rfl, fun h => (by cases h), fun _ => rfl, rfl⟩
  by_cases h3 : (decide ((r.log.length : Int) < m.index) || decide (termAt r.log m.index.toNat ≠ m.prev)) = true
  · rw [append_gap h1 h2 h3]; exact ⟨fol_wf h, rfl, rfl, rfl, fun h => (by cases h), fun _ => rfl, rfl⟩
  have h3 : (decide ((r.log.length : Int) < m.index) || decide (termAt r.log m.index.toNat ≠ m.prev)) = false := by simpa using h3
  have hm1 := hm.index
  have hm2 := hm.commit
  obtain ⟨hle, hp⟩ : m.index.toNat ≤ r.log.length ∧ termAt r.log m.index.toNat = m.prev := by
    simp only [Bool.or_eq_false_iff, decide_eq_false_iff_not] at h3
    exact ⟨by omega, Decidable.not_not.1 h3.2⟩
  have hk := agree_lt (r.log.drop m.index.toNat) m.recs
  have hk2 := agree_le (r.log.drop m.index.toNat) m.recs
  rw [List.length_drop] at hk
  by_cases h4 : appK r m < m.recs.length
  · by_cases h5 : m.index.toNat + appK r m + 1 ≤ r.commit
    · rw [append_done h1 h2 h3 h4 h5]; exact ⟨fol_wf h, rfl, rfl, rfl, fun h => (by cases h), fun _ => rfl, rfl⟩
    · rw [append_new h1 h2 h3 h4 h5]
      have hs := app_sorted h.ok hm h1 hle hp
      have hl := app_len (r := r) (m := m) hle
      have hft := hm.fits
      refine ⟨⟨⟨h.ok.id, h.ok.term0, h.ok.termM, h.ok.vote0, h.ok.voteM, sorted_up hs heq, ?_, .inl rfl, ?_, fun hr => (by cases (show (0 : Int) = 2 from hr)), h.ok.bound⟩, fun hr => absurd rfl hr⟩, rfl, rfl, rfl, fun _ => ?_, fun hn => ?_, rfl⟩
      · show (r.log.take (m.index.toNat + appK r m) ++ m.recs.drop (appK r m)).length ≤ 4000
        omega
      · show appC r m ≤ (r.log.take (m.index.toNat + appK r m) ++ m.recs.drop (appK r m)).length
        rw [hl]
        unfold appC
        omega
      · show r.log.take (m.index.toNat + appK r m) ++ m.recs.drop (appK r m) = r.log.take (min (((m.index.toNat + appK r m + 1 : Nat) : Int) - 1) (r.log.length : Int)).toNat ++ m.recs.drop (appK r m)
        congr 2
        unfold appK
        omega
      · exfalso
        apply hn
        show (0 : Int) < ((m.index.toNat + appK r m + 1 : Nat) : Int)
        omega
  · rw [append_same h1 h2 h3 h4]
    have hcm := h.ok.commit
    refine ⟨⟨⟨h.ok.id, h.ok.term0, h.ok.termM, h.ok.vote0, h.ok.voteM, h.ok.log, h.ok.len, .inl rfl, ?_, fun hr => (by cases (show (0 : Int) = 2 from hr)), h.ok.bound⟩, fun hr => absurd rfl hr⟩, rfl, rfl, rfl, fun h => (by cases h), fun _ => rfl, rfl⟩
    show appC r m ≤ r.log.length
    unfold appC
    unfold appK at h4
    omega

theorem up_wf {r : Rep} (h : r.Wf) {m : MsgR} (hm : m.Right r.id) (ht : r.term < m.term) : (upR r m).Wf := ⟨up_ok h.ok m hm ht, fun hr => absurd rfl hr⟩

theorem fin_fits {r : Rep} {x : Rep × OutR} (h1 : x.1.id = r.id) (h2 : r.term ≤ x.1.term) (hs : x.2.save = false) (hl : 0 < x.2.src → x.1.log = r.log.take (min (x.2.src - 1) (r.log.length : Int)).toNat ++ x.2.recs) (hn : ¬ 0 < x.2.src → x.1.log = r.log) : Fits r (finO r x).1 (finO r x).2 := by
  unfold finO
  split
  · rename_i he
    simp only [Bool.and_eq_true, decide_eq_true_eq] at he
    exact ⟨h1, fun h => (by rw [hs] at h; cases h), fun _ => he, hl, hn, h2⟩
  · exact ⟨h1, fun _ => ⟨rfl, rfl⟩, fun h => (by cases h), hl, hn, h2⟩

theorem fin_fst {r : Rep} {x : Rep × OutR} : (finO r x).1 = x.1 := by unfold finO; split <;> rfl
theorem vote_save (r : Rep) (m : MsgR) : (voteP r m).2.save = false := by unfold voteP; split <;> rfl
theorem voted_save (r : Rep) (m : MsgR) : (votedP r m).2.save = false := by
  unfold votedP; split
  · rfl
  · simp only; split <;> rfl
theorem appended_save (r : Rep) (m : MsgR) : (appendedP r m).2.save = false := by
  unfold appendedP; split
  · rfl
  · simp only; split
    · rfl
    · split <;> rfl

theorem hear_wf {r : Rep} (h : r.Wf) {m : MsgR} : (hearP r m).1.Wf ∧ Fits r (hearP r m).1 (hearP r m).2 := by
  cases hy : rightP r.id m with
  | false => rw [hear_no hy]; exact ⟨h, Fits.refl r⟩
  | true =>
    rw [hear_yes hy]
    have hm := right_iff.1 hy
    obtain ⟨r1, hr1, hw1, ht1, hid1, hlog1, hle1⟩ : ∃ r1, (if r.term < m.term then upR r m else r) = r1 ∧ r1.Wf ∧ r.term ≤ r1.term ∧ r1.id = r.id ∧ r1.log = r.log ∧ m.term ≤ r1.term := by
      split
      · rename_i ht; exact ⟨_, rfl, up_wf h hm ht, by show r.term ≤ m.term; omega, rfl, rfl, Int.le_refl _⟩
      · rename_i ht; exact ⟨_, rfl, h, Int.le_refl _, rfl, rfl, by omega⟩
    rw [hr1]
    have hm1 : m.Right r1.id := by rw [hid1]; exact hm
    unfold hearX
    split
    · obtain ⟨a1, a2, a3, a4, a5⟩ := vote_wf hw1 (m := m) hm.src.2
      exact ⟨by rw [fin_fst]; exact a1, fin_fits (by rw [a2, hid1]) (by rw [a3]; exact ht1) (vote_save _ _) (fun hh => by rw [a5] at hh; cases hh) (fun _ => by rw [a4, hlog1])⟩
    · split
      · obtain ⟨a1, a2, a3, a4, a5, a6⟩ := voted_wf hw1 (m := m)
        exact ⟨by rw [fin_fst]; exact a1, fin_fits (by rw [a2, hid1]) (by rw [a3]; exact ht1) (voted_save _ _) (fun hh => by rw [a6] at hh; cases hh) (fun _ => by rw [a5, hlog1])⟩
      · split
        · obtain ⟨a1, a2, a3, a4, a5, a6, a7⟩ := append_wf hw1 hm1 hle1
          rw [hlog1] at a5 a6
          exact ⟨by rw [fin_fst]; exact a1, fin_fits (by rw [a2, hid1]) (by rw [a3]; exact ht1) a7 a5 a6⟩
        · obtain ⟨a1, a2, a3, a4, a5, a6⟩ := appended_wf hw1 (m := m) hm.index.1
          exact ⟨by rw [fin_fst]; exact a1, fin_fits (by rw [a2, hid1]) (by rw [a3]; exact ht1) (appended_save _ _) (fun hh => by rw [a6] at hh; cases hh) (fun _ => by rw [a5, hlog1])⟩

theorem tick_wf {r : Rep} (h : r.Wf) : (tickP r).1.Wf ∧ Fits r (tickP r).1 (tickP r).2 := by
  by_cases h1 : r.role = 2
  · rw [tick_lead h1]; exact ⟨h, Fits.refl r |>.id, fun h => (by cases h), fun _ => ⟨rfl, rfl⟩, fun h => (by cases h), fun _ => rfl, Int.le_refl _⟩
  by_cases h2 : r.term = 1099511627776
  · rw [tick_max h1 h2]; exact ⟨h, Fits.refl r⟩
  rw [tick_ask h1 h2]
  have := h.ok.term0
  exact ⟨⟨ask_ok h.ok h1 h2, fun _ => by show 1 ≤ r.term + 1; omega⟩, rfl, fun _ => ⟨rfl, rfl⟩, fun h => (by cases h), fun h => (by cases h), fun _ => rfl, by show r.term ≤ r.term + 1; omega⟩

theorem propose_wf {r : Rep} (h : r.Wf) (data : ByteArray) : (proposeP r data).1.Wf ∧ Fits r (proposeP r data).1 (proposeP r data).2.2.2 := by
  by_cases h1 : r.role ≠ 2
  · rw [prop_no h1]; exact ⟨h, Fits.refl r⟩
  by_cases h2 : 2000 < (data.size : Int)
  · rw [prop_big h1 h2]; exact ⟨h, Fits.refl r⟩
  by_cases h3 : r.log.length = 4000
  · rw [prop_full h1 h2 h3]; exact ⟨h, Fits.refl r⟩
  rw [prop_ok h1 h2 h3]
  have hr : r.role = 2 := Decidable.not_not.1 h1
  refine ⟨⟨propR_ok h.ok hr (h.one (by rw [hr]; decide)) h2 h3, h.one⟩, rfl, fun h => (by cases h), fun _ => ⟨rfl, rfl⟩, fun _ => ?_, fun hn => ?_, Int.le_refl _⟩
  · show r.log ++ [⟨r.term, data⟩] = r.log.take (min (((r.log.length + 1 : Nat) : Int) - 1) (r.log.length : Int)).toNat ++ [⟨r.term, data⟩]
    rw [show (min (((r.log.length + 1 : Nat) : Int) - 1) (r.log.length : Int)).toNat = r.log.length by omega, List.take_length]
  · exfalso
    apply hn
    show (0 : Int) < ((r.log.length + 1 : Nat) : Int)
    omega

theorem new_wf {i : Nat} {t v : Int} {l : List RecD} (hi : i ≤ 2) (h0 : 0 ≤ t) (hM : t ≤ 1099511627776) (hv0 : -1 ≤ v) (hvM : v ≤ 2) (hl : Sorted l t) (hlen : l.length ≤ 4000) : (newRep i t v l).Wf :=
  ⟨⟨hi, h0, hM, hv0, hvM, hl, hlen, .inl rfl, Nat.zero_le _, fun hr => (by cases (show (0 : Int) = 2 from hr)), fun i => ⟨by show 0 ≤ 4001; omega, by show 0 ≤ 4000; omega⟩⟩, fun hr => absurd rfl hr⟩

end Go.Proofs.YtfpgbejdlikpgaaDoor
end

/-
  The cluster: start.
-/
section
set_option linter.unusedVariables false
set_option linter.unusedSimpArgs false
namespace Go.Proofs.YtfpgbejdlikpgaaDoor
open Go.Vc

def CPhi (Φ : PW) (L : Lay) (C : Cl) : PW := fun M w => Φ M w ∧ ClS L C M w
instance cphi_stable (Φ : PW) [Stable Φ] (L : Lay) (C : Cl) : Stable (CPhi Φ L C) := instStableAnd Φ (ClS L C)

end Go.Proofs.YtfpgbejdlikpgaaDoor
end

/-
  The cluster: done.
-/
section
set_option linter.unusedVariables false
set_option linter.unusedSimpArgs false
namespace Go.Proofs.YtfpgbejdlikpgaaDoor
open Go.Vc

theorem pin_msg {M : List Nat} {w : World} {b o : Nat} {cs : List (List Value)} {l : List MsgR} (h : Pin b o cs l M w) {j : Nat} (hj : j < l.length) : ∃ p c, cs.getD j [] = l[j].cells p c ∧ l[j].recs.length ≤ c ∧ c ≤ maxLen ∧ l[j].Ok := by
  obtain ⟨_, h1, h2⟩ := h j hj
  obtain ⟨p, c, e, g1, g2, g3, _⟩ := msg_cells h2
  exact ⟨p, c, e, g1, g2, g3⟩

theorem pin_msgSl {M : List Nat} {w : World} {b o : Nat} {cs : List (List Value)} {l : List MsgR} (h : Pin b o cs l M w) {j : Nat} (hj : j < l.length) {p : Option Addr} {c : Nat} (e : cs.getD j [] = l[j].cells p c) : Sl M w p l[j].recs := by
  have := (h j hj).2.2
  rw [e] at this
  exact msg_sl this

theorem pin_msgAt {M : List Nat} {w : World} {b o : Nat} {cs : List (List Value)} {l : List MsgR} (h : Pin b o cs l M w) {j : Nat} (hj : j < l.length) {p : Option Addr} {c : Nat} (e : cs.getD j [] = l[j].cells p c) : RowAt w b (o + j * 9) (l[j].cells p c) := by
  have := (h j hj).2.1
  rw [e] at this
  exact this

end Go.Proofs.YtfpgbejdlikpgaaDoor
end

/-
  The cluster: a call of a replica and what is done after it; in plain Lean, and walked.
-/
section
set_option linter.unusedVariables false
set_option linter.unusedSimpArgs false
namespace Go.Proofs.YtfpgbejdlikpgaaDoor
open Go.Vc

/-! ### results are short -/
structure Small (o : OutR) : Prop where
  recs : o.recs.length ≤ 4000
  src : o.src ≤ 4001
  send : o.send.length ≤ 2

/-! ### a cluster that may be found -/
structure Cl.Wf (C : Cl) : Prop where
  rep : ∀ i, i < 3 → (C.nd i).rep.Wf ∧ (C.nd i).rep.id = i
  hard : ∀ i, i < 3 → (C.nd i).sterm = (C.nd i).rep.term ∧ (C.nd i).svote = (C.nd i).rep.vote ∧ (C.nd i).slog = (C.nd i).rep.log
  stop : ∀ i, i < 3 → (C.nd i).stop = 0 ∨ (C.nd i).stop = 1 ∨ (C.nd i).stop = 2
  sent : C.sent.length ≤ 300

/-! ### walked -/
end Go.Proofs.YtfpgbejdlikpgaaDoor
end

/-
  The cluster: a message arrives, or is lost.
-/
section
set_option linter.unusedVariables false
set_option linter.unusedSimpArgs false
namespace Go.Proofs.YtfpgbejdlikpgaaDoor
open Go.Vc

abbrev remF (L : Lay) (C : Cl) (Φ : PW) : PW := fun M w => CPhi Φ L C M w ∧ Sl M w L.tp C.sent
instance rem_stable (L : Lay) (C : Cl) (Φ : PW) [Stable Φ] : Stable (remF L C Φ) := instStableAnd (CPhi Φ L C) (fun M w => Sl M w L.tp C.sent)

end Go.Proofs.YtfpgbejdlikpgaaDoor
end

/-
  The cluster: arrive, walked.
-/
section
set_option linter.unusedVariables false
set_option linter.unusedSimpArgs false
namespace Go.Proofs.YtfpgbejdlikpgaaDoor
open Go.Vc

abbrev MPhi (Φ : PW) (p : Option Addr) (l : List RecD) : PW := fun M w => Φ M w ∧ Sl M w p l
instance mphi_stable (Φ : PW) [Stable Φ] (p : Option Addr) (l : List RecD) : Stable (MPhi Φ p l) := instStableAnd Φ (fun M w => Sl M w p l)

end Go.Proofs.YtfpgbejdlikpgaaDoor
end

/-
  The cluster: step.
-/
section
set_option linter.unusedVariables false
set_option linter.unusedSimpArgs false
namespace Go.Proofs.YtfpgbejdlikpgaaDoor
open Go.Vc

end Go.Proofs.YtfpgbejdlikpgaaDoor
end

/-
  Log, Role, Commit, Hard; the example of the documentation.
-/
section
set_option linter.unusedVariables false
set_option linter.unusedSimpArgs false
namespace Go.Proofs.YtfpgbejdlikpgaaDoor
open Go.Vc

theorem Log_use {W w : World} {S : List Own} {Φ : PW} [Stable Φ] {b : Nat} {r : Rep} {p : Option Addr} {c : Nat} (cx : Ctx W w (repO b r p c ++ S) Φ) (hok : ∀ x ∈ r.log, x.Ok) (hlen : r.log.length ≤ 4000) {K : Ending → World → Prop}
    (hK : ∀ q cap w', r.log.length ≤ cap → cap ≤ maxLen → Ctx W w' (repO b r p c ++ S) (fun M w => Φ M w ∧ Sl M w q r.log) → K (.returned (.slice q r.log.length cap)) w') :
    Calls Tryd.prog F.replica_Replica_Log #[.pointer (some ⟨b, 0, none⟩)] w K := by
  refine (Breplica_Replica_Log_run b 0 (J := fun u w' => K (.returned u) w') cx ?_).mono fun e w' ⟨v, he, hj⟩ => by rw [he]; exact hj
  refine fun w G cx => ⟨p, r.log.length, c, cx.get 0 rfl rfl, fun w G cx => ?_⟩
  have cx1 : Ctx W w (S ++ G) (Aside W (repO b r p c) Φ) := Ctx.aside (cx.re (List.append_assoc _ _ _))
  refine CloneR_use cx1 (fun M w h => log_sl h (n := r.log.length) (c := c) (by simp) hok) (by omega) fun q cap w cx => ?_
  obtain ⟨_, hcap1, hcap2⟩ := cx.bufLen 0 rfl
  have cx2 : Ctx W w (.buf q r.log.length cap (recCells r.log) 27 2 :: (repO b r p c ++ (S ++ G))) Φ := cx.unaside.perm List.perm_middle
  obtain ⟨cx3, hs, _⟩ := Ctx.freeze (α := RecD) cx2 (recs_elems hok)
  have hst : Stable (fun M w => Φ M w ∧ Sl M w q r.log) := instStableAnd Φ (fun M w => Sl M w q r.log)
  exact ⟨q, _, cap, rfl, repO b r p c ++ S, fun M w => Φ M w ∧ Sl M w q r.log, hst, gr (cx3.add hs), fun w G cx => hK q cap w hcap1 hcap2 cx.left⟩

theorem Role_q {w : World} {b : Nat} {r : Rep} {p : Option Addr} {c : Nat} (h : Here w b r p c) : Calls Tryd.prog F.replica_Replica_Role #[.pointer (some ⟨b, 0, none⟩)] w fun e w' => e = .returned (.int .i64 r.role) ∧ w' = w :=
  (Qreplica_Replica_Role_run b 0 w (fun u w' => u = .int .i64 r.role ∧ w' = w) ⟨r.role, h.at 4 rfl, rfl, rfl⟩).mono fun e w' ⟨v, h1, h2, h3⟩ => ⟨by rw [h1, h2], h3⟩

theorem Commit_q {w : World} {b : Nat} {r : Rep} {p : Option Addr} {c : Nat} (h : Here w b r p c) : Calls Tryd.prog F.replica_Replica_Commit #[.pointer (some ⟨b, 0, none⟩)] w fun e w' => e = .returned (.int .i64 r.commit) ∧ w' = w :=
  (Qreplica_Replica_Commit_run b 0 w (fun u w' => u = .int .i64 r.commit ∧ w' = w) ⟨r.commit, h.at 5 rfl, rfl, rfl⟩).mono fun e w' ⟨v, h1, h2, h3⟩ => ⟨by rw [h1, h2], h3⟩

theorem Commit_use {W w : World} {S : List Own} {Φ : PW} [Stable Φ] {b : Nat} {r : Rep} {p : Option Addr} {c : Nat} (cx : Ctx W w (repO b r p c ++ S) Φ) {K : Ending → World → Prop} (hK : ∀ w', Ctx W w' (repO b r p c ++ S) Φ → K (.returned (.int .i64 r.commit)) w') :
    Calls Tryd.prog F.replica_Replica_Commit #[.pointer (some ⟨b, 0, none⟩)] w K :=
  (Commit_q (here_of cx)).mono fun e w' ⟨h1, h2⟩ => by subst h2; rw [h1]; exact hK _ cx

theorem first_msg {W w : World} {S : List Own} {Φ : PW} [Stable Φ] {q1 q2 : Option Addr} {recs : List RecD} {send rest : List MsgR} {m : MsgR} (cx : Ctx W w S (OPhi Φ q1 recs q2 send)) (hs : send = m :: rest) :
    ∃ b o mp mc, ∃ Ψ : PW, Stable Ψ ∧ q2 = some ⟨b, o, none⟩ ∧ Ctx W w S Ψ ∧ (∀ M w, Ψ M w → Φ M w ∧ RowAt w b o (m.cells mp mc) ∧ Sl M w mp m.recs) ∧ m.recs.length ≤ mc ∧ mc ≤ maxLen ∧ m.Ok := by
  obtain ⟨b, o, cs, hp, cx'⟩ := cx.pin cx.phi.2.2
  subst hs
  have h0 : 0 < (m :: rest).length := by simp
  obtain ⟨mp, mc, he, h1, h2, h3⟩ := pin_msg cx'.phi.2 h0
  refine ⟨b, o, mp, mc, fun M w => OPhi Φ q1 recs q2 (m :: rest) M w ∧ Pin b o cs (m :: rest) M w, inferInstance, hp h0, cx', fun M w h => ⟨h.1.1, ?_, ?_⟩, h1, h2, h3⟩
  · have := pin_msgAt h.2 h0 he
    rw [Nat.zero_mul, Nat.add_zero] at this
    exact this
  · exact pin_msgSl h.2 h0 he

theorem swapL {W w : World} {A B S G : List Own} {Φ : PW} [Stable Φ] (c : Ctx W w (A ++ (B ++ S) ++ G) Φ) : Ctx W w (B ++ (A ++ S ++ G)) Φ := by
  refine c.perm ?_
  have e1 : (A ++ (B ++ S) ++ G).Perm ((A ++ B) ++ (S ++ G)) := List.Perm.of_eq (by simp)
  exact e1.trans ((List.Perm.append_right _ List.perm_append_comm).trans (List.Perm.of_eq (by simp)))

theorem out_gr {W : World} {S G : List Own} {Φ : PW} {b : Nat} {r' : Rep} {o : OutR} {J : Value → World → Prop} (h : ∀ p' c' q1 c1 q2 c2 w', o.recs.length ≤ c1 → c1 ≤ maxLen → o.send.length ≤ c2 → c2 ≤ maxLen → Ctx W w' (repO b r' p' c' ++ S ++ G) (OPhi Φ q1 o.recs q2 o.send) → J (outV o q1 c1 q2 c2) w') :
    OutK W (S ++ G) Φ b r' o J := fun p' c' q1 c1 q2 c2 w' h1 h2 h3 h4 cx => h p' c' q1 c1 q2 c2 w' h1 h2 h3 h4 (gr cx)

def exA0 : Rep := newRep 0 0 (-1) []
def exB0 : Rep := newRep 1 0 (-1) []
def exM1 : MsgR := ⟨0, 0, 1, 1, 0, 0, 0, false, []⟩
def exM2 : MsgR := ⟨1, 1, 0, 1, 0, 0, 0, true, []⟩
def exE : RecD := ⟨1, ByteArray.mk #[OfNat.ofNat 97]⟩
def exM4 : MsgR := ⟨2, 0, 1, 1, 0, 0, 0, false, [exE]⟩
def exM5 : MsgR := ⟨3, 1, 0, 1, 1, 0, 0, true, []⟩
def exX1 := tickP exA0
def exX2 := hearP exB0 exM1
def exX3 := hearP exX1.1 exM2
def exX4 := proposeP exX3.1 (ByteArray.mk #[OfNat.ofNat 97])
def exX5 := hearP exX2.1 exM4
def exX6 := hearP exX4.1 exM5

theorem ex1 : exX1.2.save = true ∧ exX1.2.term = 1 ∧ exX1.2.vote = 0 ∧ exX1.2.send.length = 2 ∧ ∃ r, exX1.2.send = exM1 :: r := ⟨by decide, by decide, by decide, by decide, _, rfl⟩
theorem ex2 : exX2.2.send = [exM2] := rfl
theorem ex4 : exX4.2.1 = 1 ∧ exX4.2.2.1 = 0 ∧ exX4.2.2.2.send.length = 2 ∧ ∃ r, exX4.2.2.2.send = exM4 :: r := ⟨by decide, by decide, by decide, _, rfl⟩
theorem ex5 : exX5.2.src = 1 ∧ exX5.2.send = [exM5] := ⟨by decide, rfl⟩
theorem exWa : exA0.Wf := new_wf (by decide) (by decide) (by decide) (by decide) (by decide) ⟨by simp, by simp, by simp, by simp⟩ (by simp)
theorem exWb : exB0.Wf := new_wf (by decide) (by decide) (by decide) (by decide) (by decide) ⟨by simp, by simp, by simp, by simp⟩ (by simp)
theorem exW1 : exX1.1.Wf := (tick_wf exWa).1
theorem exW2 : exX2.1.Wf := (hear_wf exWb).1
theorem exW3 : exX3.1.Wf := (hear_wf exW1).1
theorem exW4 : exX4.1.Wf := (propose_wf exW3 _).1
theorem exW5 : exX5.1.Wf := (hear_wf exW2).1
theorem exW6 : exX6.1.Wf := (hear_wf exW4).1

end Go.Proofs.YtfpgbejdlikpgaaDoor
end

/-
  The example of the documentation, walked.
-/
section
set_option linter.unusedVariables false
set_option linter.unusedSimpArgs false
namespace Go.Proofs.YtfpgbejdlikpgaaDoor
open Go.Vc

set_option maxHeartbeats 2000000 in
set_option maxRecDepth 10000 in
theorem small_g : Gives Tryd.prog F.erratalaw08_small #[] (.bool true) := by
  refine gives_of Berratalaw08_small_run fun W R Φ _ => ?_
  refine fun w G cx => New_use cx 0 0 (-1) [] none 0 (fun _ _ _ => Sl.nil) (by simp) (fun h => absurd h (by decide)) fun _ ba pa ca w cx => ⟨some ⟨ba, 0, none⟩, rfl, repO ba exA0 pa ca ++ R, Φ, inferInstance, gr cx, fun w G cx => New_use cx 1 0 (-1) [] none 0 (fun _ _ _ => Sl.nil) (by simp) (fun h => absurd h (by decide)) fun _ bb pb cb w cx => ⟨some ⟨bb, 0, none⟩, rfl, repO bb exB0 pb cb ++ (repO ba exA0 pa ca ++ R), Φ, inferInstance, gr cx, fun w G cx => Br.intro (fun h => by cases h) (fun _ => ?_)⟩⟩
  intro w G cx
  refine Tick_use (swapL cx) exWa.ok (out_gr fun pa ca q1 c1 q2 c2 w _ _ _ _ cx => ?_)
  obtain ⟨y1, y2, y3, y4, r1, y5⟩ := ex1
  obtain ⟨b1, o1, mp1, mc1, Φ1, hst1, hq1, cz1, hΦ1, hl1, hl1', hm1⟩ := first_msg cx y5
  subst hq1
  refine ⟨_, _, _, _, q1, _, c1, some ⟨b1, o1, none⟩, _, c2, rfl, repO ba exX1.1 pa ca ++ (repO bb exB0 pb cb ++ R), Φ1, hst1, cz1, fun _ => Br.intro (fun h => absurd h (by decide)) (fun _ => Br.intro (fun h => absurd h (by decide)) (fun _ => ⟨okAgg40, Br.intro (fun h => absurd h (by decide)) (fun _ => ⟨⟨by decide, by decide⟩, ptrK_intro b1 o1 rfl fun w G cx => ⟨_, _, _, _, _, _, _, _, mp1, _, mc1, (hΦ1 _ _ cx.phi).2.1, fun w G cx => ?_⟩⟩)⟩))⟩
  refine Hear_use (swapL cx) exWb.ok exM1 hm1 mp1 mc1 (fun M w h => (hΦ1 M w h).2.2) hl1 hl1' (out_gr fun pb cb q3 c3 q4 c4 w _ _ _ _ cx => ?_)
  obtain ⟨b2, o2, mp2, mc2, Φ2, hst2, hq2, cz2, hΦ2, hl2, hl2', hm2⟩ := first_msg cx ex2
  subst hq2
  refine ⟨_, _, _, _, q3, _, c3, some ⟨b2, o2, none⟩, _, c4, rfl, repO bb exX2.1 pb cb ++ (repO ba exX1.1 pa ca ++ R), Φ2, hst2, cz2, fun _ w G cx => ⟨fun _ => ⟨by decide, by decide⟩, ptrK_intro b2 o2 rfl ⟨true, fun _ => (hΦ2 _ _ cx.phi).2.1 7 (show 7 < 9 by decide), Br.intro (fun h => absurd h (by decide)) (fun _ => ⟨⟨by decide, by decide⟩, ptrK_intro b2 o2 rfl fun w G cx => ⟨_, _, _, _, _, _, _, _, mp2, _, mc2, (hΦ2 _ _ cx.phi).2.1, fun w G cx => ?_⟩⟩)⟩⟩⟩
  refine Hear_use (swapL cx) exW1.ok exM2 hm2 mp2 mc2 (fun M w h => (hΦ2 M w h).2.2) hl2 hl2' (out_gr fun pa ca q5 c5 q6 c6 w _ _ _ _ cx => ?_)
  refine ⟨_, _, _, _, q5, _, c5, q6, _, c6, rfl, repO ba exX3.1 pa ca ++ (repO bb exX2.1 pb cb ++ R), OPhi Φ2 q5 exX3.2.recs q6 exX3.2.send, inferInstance, cx, fun _ w G cx => ?_⟩
  refine Propose_use (gl cx) exW3.ok (fun hr => exW3.one (by rw [hr]; decide)) _ (out_gr fun pa ca q7 c7 q8 c8 w _ _ _ _ cx => ?_)
  obtain ⟨z1, z2, z3, r4, z4⟩ := ex4
  obtain ⟨b4, o4, mp4, mc4, Φ4, hst4, hq4, cz4, hΦ4, hl4, hl4', hm4⟩ := first_msg cx z4
  subst hq4
  refine ⟨_, _, _, _, _, _, q7, _, c7, some ⟨b4, o4, none⟩, _, c8, rfl, repO ba exX4.1 pa ca ++ (repO bb exX2.1 pb cb ++ R), Φ4, hst4, cz4, fun _ w G cx => ⟨exX4.1.role, fun _ w' hw => by rw [hw]; exact Role_q (here_of (gl cx)), Br.intro (fun h => absurd h (by decide)) (fun _ => ⟨⟨by decide, by decide⟩, ptrK_intro b4 o4 rfl fun w G cx => ⟨_, _, _, _, _, _, _, _, mp4, _, mc4, (hΦ4 _ _ cx.phi).2.1, fun w G cx => ?_⟩⟩)⟩⟩
  refine Hear_use (swapL cx) exW2.ok exM4 hm4 mp4 mc4 (fun M w h => (hΦ4 M w h).2.2) hl4 hl4' (out_gr fun pb cb q9 c9 q10 c10 w _ _ _ _ cx => ?_)
  obtain ⟨b5, o5, mp5, mc5, Φ5, hst5, hq5, cz5, hΦ5, hl5, hl5', hm5⟩ := first_msg cx ex5.2
  subst hq5
  refine ⟨_, _, _, _, q9, _, c9, some ⟨b5, o5, none⟩, _, c10, rfl, repO bb exX5.1 pb cb ++ (repO ba exX4.1 pa ca ++ R), Φ5, hst5, cz5, fun _ w G cx => Br.intro (fun h => absurd h (by decide)) (fun _ => ⟨⟨by decide, by decide⟩, ptrK_intro b5 o5 rfl fun w G cx => ⟨_, _, _, _, _, _, _, _, mp5, _, mc5, (hΦ5 _ _ cx.phi).2.1, fun w G cx => ?_⟩⟩)⟩
  refine Hear_use (swapL cx) exW4.ok exM5 hm5 mp5 mc5 (fun M w h => (hΦ5 M w h).2.2) hl5 hl5' (out_gr fun pa ca q11 c11 q12 c12 w _ _ _ _ cx => ?_)
  refine ⟨_, _, _, _, q11, _, c11, q12, _, c12, rfl, repO ba exX6.1 pa ca ++ (repO bb exX5.1 pb cb ++ R), OPhi Φ5 q11 exX6.2.recs q12 exX6.2.send, inferInstance, cx, fun w G cx => Commit_use (gl cx) fun w cx => ⟨_, rfl, repO ba exX6.1 pa ca ++ (repO bb exX5.1 pb cb ++ R), OPhi Φ5 q11 exX6.2.recs q12 exX6.2.send, inferInstance, gr cx, Br.intro (fun _ w G cx => ?_) (fun h => absurd h (by decide))⟩⟩
  have hΦ : ∀ M w, OPhi Φ5 q11 exX6.2.recs q12 exX6.2.send M w → Φ M w := fun M w h => (hΦ1 M w (hΦ2 M w (hΦ4 M w (hΦ5 M w h.1).1).1.1).1).1
  have hst6 : Stable (OPhi Φ5 q11 exX6.2.recs q12 exX6.2.send) := inferInstance
  generalize OPhi Φ5 q11 exX6.2.recs q12 exX6.2.send = Φ6 at cx hΦ hst6
  refine Log_use (gl cx) exW6.ok.recs exW6.ok.len fun q cap w _ _ cx => ⟨q, _, cap, rfl, repO ba exX6.1 pa ca ++ (repO bb exX5.1 pb cb ++ R), (fun M w => Φ6 M w ∧ Sl M w q exX6.1.log), instStableAnd Φ6 (fun M w => Sl M w q exX6.1.log), gr cx, Br.intro (fun _ w G cx => ?_) (fun h => absurd h (by decide))⟩
  have cy : Ctx W w (repO ba exX6.1 pa ca ++ (repO bb exX5.1 pb cb ++ R) ++ G) Φ := cx.weak fun M w h => hΦ M w h.1
  refine Log_use (swapL cy) exW5.ok.recs exW5.ok.len fun q cap w _ _ cx => ⟨q, _, cap, rfl, repO bb exX5.1 pb cb ++ (repO ba exX6.1 pa ca ++ R), Φ, inferInstance, (gr cx).weak fun M w h => h.1, fun w G cx => ⟨rfl, cx.left.right.right⟩⟩

end Go.Proofs.YtfpgbejdlikpgaaDoor
end

/-
  STRINGS.BUILDER over what a walk owns; tables that a row lays; rows with laid tables; the decimal form of ints.
-/
section
set_option linter.unusedVariables false
set_option linter.unusedSimpArgs false
namespace Go.Vc
open Go.RowKit Go.Shelf

section
variable {P : Program} {W w w' : World} {S R F : List Own} {Φ Ψ : PW}

/-- what is owned changes, and is owned no more -/
theorem Ctx.lose [Stable Φ] (c : Ctx W w (R ++ S) Φ) (h : Chg (dom R) w w') : Ctx W w' S Φ := by
  have hn := c.nodup
  rw [dom_app, List.nodup_append] at hn
  refine c.go ⟨h.mono fun x hx => by rw [dom_app]; exact List.mem_append_left _ hx, fun b hb => .inl (by rw [dom_app]; exact List.mem_append_right _ hb)⟩ (fun o ho => ?_) hn.2.1
  exact Own.at_keep (c.own o (List.mem_append_right _ ho)) fun b hb => h.block b (c.lt (mem_dom (List.mem_append_right _ ho) hb)) fun hm => hn.2.2 b hm b (mem_dom ho hb) rfl

/-- a strings.Builder (of type T, in block b) that holds these bytes (of type e) -/
def Bd (T e : TypeId) (b : Nat) (l : List UInt8) (R : List Own) : Prop :=
  ∃ (pa : Value) (p : Option Addr) (cap : Nat), (pa = .pointer none ∨ pa = .pointer (some ⟨b, 0, none⟩)) ∧ R = [.blk b [pa, .slice p l.length cap] T, .buf p l.length cap (Lib.byteCells l) e 1]

theorem Bd.fresh [Stable Φ] {T e : TypeId} {b : Nat} (c : Ctx W w (.blk b [.pointer none, .slice none 0 0] T :: S) Φ) : Ctx W w ([.blk b [.pointer none, .slice none 0 0] T, .buf none 0 0 [] e 1] ++ S) Φ :=
  ((c.buf0 e 1).perm (List.Perm.swap _ _ _))
theorem Bd.nil {T e : TypeId} {b : Nat} : Bd T e b [] [.blk b [.pointer none, .slice none 0 0] T, .buf none 0 0 [] e 1] := ⟨.pointer none, none, 0, .inl rfl, rfl⟩

end

/-! ### String -/
section
open Go.Proofs
variable {P : Program} {ρ : Ren}

theorem chg_freeze {a w : World} {D : List Nat} (h : Chg D a w) {p : Addr} (hp : p.block ∈ D) (n : Nat) : Chg D a (w.freeze p n) := by
  refine h.trans (T := D) ?_ (fun x hx => .inl hx)
  unfold World.freeze
  split
  · exact Chg.refl _ _
  · refine ⟨rfl, rfl, rfl, by simp, fun k hk hn => ?_⟩
    simp only [Array.getElem?_modify]
    rw [if_neg (fun e => hn (by rw [← e]; exact hp))]

set_option maxHeartbeats 1000000 in
set_option maxRecDepth 100000 in
theorem builder_String_some (L : Lays.n169 P ρ) (X : Builder.Extra P ρ) (b g cap : Nat) (pa : Value) (l : List UInt8) (w : World) (h0 : l ≠ []) (hbk : w.heap[b]? = some (.cells #[pa, .slice (some ⟨g, 0, none⟩) l.length cap] (ρ.t 72) (0, 0)))
    (hown : w.ownsRow 0 (ρ.t 5) 1 (.slice (some ⟨g, 0, none⟩) l.length cap) l.length (Lib.byteCells l)) :
    Calls P (ρ.f 169) #[.pointer (some ⟨b, 0, none⟩)] w fun e w' => e = .returned (.string ⟨l.toArray⟩) ∧ Chg [g] w w' := by
  have hl0 : l.length ≠ 0 := by simpa using h0
  obtain ⟨cur, hg, hnc, hcm, hcs, htake⟩ : ∃ cur, w.heap[g]? = some (.cells cur (ρ.t 5) (0, 0)) ∧ l.length ≤ cap ∧ cap ≤ maxLen ∧ cur.size = cap * 1 ∧ cur.toList.take (l.length * 1) = Lib.byteCells l := by
    rcases hown.2 with ⟨hv, _⟩ | ⟨g', cap', cur, hv, _, r⟩
    · cases hv
    · cases hv; exact ⟨cur, r⟩
  have c1 : w.drew.cell? ⟨b, 1, none⟩ = some (.slice (some ⟨g, 0, none⟩) l.length cap) := by
    have : w.drew.heap[b]? = some (.cells #[pa, .slice (some ⟨g, 0, none⟩) l.length cap] (ρ.t 72) (0, 0)) := hbk
    rw [Lib.cell_of_heap this]; rfl
  have hSD : (Builtin.unsafeSliceData_ #[(ρ.t 37)] (ρ.t 127) #[.slice (some ⟨g, 0, none⟩) l.length cap]).run P w.drew = .ok (.pointer (some ⟨g, 0, none⟩)) w.drew :=
    Lib.run_unsafeSliceData_row _ _ _ _ _ _ (by omega)
  have hUS : (Builtin.unsafeString_ #[(ρ.t 127), (ρ.t 3)] (ρ.t 9) #[.pointer (some ⟨g, 0, none⟩), .int .i64 l.length]).run P w.drew = .ok (.string ⟨l.toArray⟩) (w.drew.freeze ⟨g, 0, none⟩ l.length) := by
    refine Lib.run_unsafeString_row w.drew (ρ.t 127) (ρ.t 3) (ρ.t 9) (ρ.t 5) L.t127 X.cellsByte g cur.size (by have hg' : w.drew.heap[g]? = some (.cells cur (ρ.t 5) (0, 0)) := hg; simp [World.shape?, hg']) l h0 (by omega) (by unfold maxLen at hcm; omega) ?_
    intro j x hx
    have := hown.cells (g := g) rfl j (.int .u8 x.toNat) (by simp [Lib.byteCells, hx])
    exact this
  have mixed := L.mixed
  have t72 := L.t72; have a72 := L.a72; have z72 := L.z72; have v72 := L.v72; have u72 := run_underlying L.t72
  have t70 := L.t70; have a70 := L.a70; have z70 := L.z70; have v70 := L.v70; have u70 := run_underlying L.t70
  have t37 := L.t37; have a37 := L.a37; have z37 := L.z37; have v37 := L.v37; have u37 := run_underlying L.t37
  have t127 := L.t127; have a127 := L.a127; have z127 := L.z127; have v127 := L.v127; have u127 := run_underlying L.t127
  have t3 := L.t3; have a3 := L.a3; have z3 := L.z3; have v3 := L.v3; have u3 := run_underlying L.t3
  have t9 := L.t9; have a9 := L.a9; have z9 := L.z9; have v9 := L.v9; have u9 := run_underlying L.t9
  have t5 := X.t5; have a5 := X.a5; have z5 := X.z5; have v5 := X.v5; have u5 := run_underlying X.t5
  go_enter L.f169, Body.n169_ntmps ρ
  go_wp2
  go_region_o
  all_goals (go_wp2; go_ret; exact ⟨rfl, chg_freeze ((Chg.refl _ _).drewN 1) (p := ⟨g, 0, none⟩) (by simp) _⟩)

set_option maxHeartbeats 2000000 in
set_option maxRecDepth 100000 in
theorem builder_String_nil (L : Lays.n169 P ρ) (X : Builder.Extra P ρ) (b : Nat) (p : Value) (w : World) (hbk : w.heap[b]? = some (.cells #[p, .slice none 0 0] (ρ.t 72) (0, 0))) :
    Calls P (ρ.f 169) #[.pointer (some ⟨b, 0, none⟩)] w fun e w' => e = .returned (.string ⟨#[]⟩) ∧ Chg [] w w' := by
  have hUS := Any.unsafeString_none L X
  have c1 : w.drew.cell? ⟨b, 1, none⟩ = some (.slice none 0 0) := by
    have : w.drew.heap[b]? = some (.cells #[p, .slice none 0 0] (ρ.t 72) (0, 0)) := hbk
    rw [Lib.cell_of_heap this]; rfl
  have hSD : (Builtin.unsafeSliceData_ #[(ρ.t 37)] (ρ.t 127) #[.slice none 0 0]).run P w.drew = .ok (.pointer none) w.drew := rfl
  have mixed := L.mixed
  have t72 := L.t72; have a72 := L.a72; have z72 := L.z72; have v72 := L.v72; have u72 := run_underlying L.t72
  have t70 := L.t70; have a70 := L.a70; have z70 := L.z70; have v70 := L.v70; have u70 := run_underlying L.t70
  have t37 := L.t37; have a37 := L.a37; have z37 := L.z37; have v37 := L.v37; have u37 := run_underlying L.t37
  have t127 := L.t127; have a127 := L.a127; have z127 := L.z127; have v127 := L.v127; have u127 := run_underlying L.t127
  have t3 := L.t3; have a3 := L.a3; have z3 := L.z3; have v3 := L.v3; have u3 := run_underlying L.t3
  have t9 := L.t9; have a9 := L.a9; have z9 := L.z9; have v9 := L.v9; have u9 := run_underlying L.t9
  have t5 := X.t5; have a5 := X.a5; have z5 := X.z5; have v5 := X.v5; have u5 := run_underlying X.t5
  go_enter L.f169, Body.n169_ntmps ρ
  go_wp2
  go_region_o
  all_goals (go_wp2; go_ret; exact ⟨rfl, (Chg.refl _ _).drewN 1⟩)

set_option maxHeartbeats 2000000 in
set_option maxRecDepth 100000 in
theorem builder_String_noroom (L : Lays.n169 P ρ) (X : Builder.Extra P ρ) (b g : Nat) (p : Value) (cur : Array Value) (w : World) (hbk : w.heap[b]? = some (.cells #[p, .slice (some ⟨g, 0, none⟩) 0 0] (ρ.t 72) (0, 0))) (hg : w.heap[g]? = some (.cells cur (ρ.t 5) (0, 0))) :
    Calls P (ρ.f 169) #[.pointer (some ⟨b, 0, none⟩)] w fun e w' => e = .returned (.string ⟨#[]⟩) ∧ Chg [] w w' := by
  have hUS := Any.unsafeString_none L X
  have hlt : b < w.heap.size := by
    rcases Nat.lt_or_ge b w.heap.size with h' | h'
    · exact h'
    · simp [Array.getElem?_eq_none h'] at hbk
  have c1 : w.drew.cell? ⟨b, 1, none⟩ = some (.slice (some ⟨g, 0, none⟩) 0 0) := by
    have : w.drew.heap[b]? = some (.cells #[p, .slice (some ⟨g, 0, none⟩) 0 0] (ρ.t 72) (0, 0)) := hbk
    rw [Lib.cell_of_heap this]; rfl
  have hSD : (Builtin.unsafeSliceData_ #[(ρ.t 37)] (ρ.t 127) #[.slice (some ⟨g, 0, none⟩) 0 0]).run P w.drew = .ok (.pointer (some ⟨w.drew.heap.size, 0, none⟩)) (w.drew.alloc (.view ⟨g, 0, none⟩ (ρ.t 5))) :=
    Lib.run_unsafeSliceData_zero w.drew _ _ (ρ.t 5) L.t127 ⟨g, 0, none⟩ 0 ((ρ.t 5), cur.size) (by have hg' : w.drew.heap[g]? = some (.cells cur (ρ.t 5) (0, 0)) := hg; simp [World.shape?, hg'])
  have c2 : (w.drew.alloc (.view ⟨g, 0, none⟩ (ρ.t 5))).cell? ⟨b, 1, none⟩ = some (.slice (some ⟨g, 0, none⟩) 0 0) := by
    have : (w.drew.alloc (.view ⟨g, 0, none⟩ (ρ.t 5))).heap[b]? = _ := (Lib.alloc_old w.drew _ b hlt).trans hbk
    rw [Lib.cell_of_heap this]; rfl
  have c3 : (w.alloc (.view ⟨g, 0, none⟩ (ρ.t 5))).drew.cell? ⟨b, 1, none⟩ = some (.slice (some ⟨g, 0, none⟩) 0 0) := c2
  have c0 : w.cell? ⟨b, 1, none⟩ = some (.slice (some ⟨g, 0, none⟩) 0 0) := c1
  have mixed := L.mixed
  have t72 := L.t72; have a72 := L.a72; have z72 := L.z72; have v72 := L.v72; have u72 := run_underlying L.t72
  have t70 := L.t70; have a70 := L.a70; have z70 := L.z70; have v70 := L.v70; have u70 := run_underlying L.t70
  have t37 := L.t37; have a37 := L.a37; have z37 := L.z37; have v37 := L.v37; have u37 := run_underlying L.t37
  have t127 := L.t127; have a127 := L.a127; have z127 := L.z127; have v127 := L.v127; have u127 := run_underlying L.t127
  have t3 := L.t3; have a3 := L.a3; have z3 := L.z3; have v3 := L.v3; have u3 := run_underlying L.t3
  have t9 := L.t9; have a9 := L.a9; have z9 := L.z9; have v9 := L.v9; have u9 := run_underlying L.t9
  have t5 := X.t5; have a5 := X.a5; have z5 := X.z5; have v5 := X.v5; have u5 := run_underlying X.t5
  go_enter L.f169, Body.n169_ntmps ρ
  go_wp2
  go_region_o
  all_goals (go_wp2; go_ret; exact ⟨rfl, ((Chg.refl _ _).drewN 1).alloc _⟩)

set_option maxHeartbeats 2000000 in
set_option maxRecDepth 100000 in
theorem builder_String_room (L : Lays.n169 P ρ) (X : Builder.Extra P ρ) (b g cap : Nat) (p : Value) (w : World) (hc0 : cap ≠ 0) (hbk : w.heap[b]? = some (.cells #[p, .slice (some ⟨g, 0, none⟩) 0 cap] (ρ.t 72) (0, 0))) :
    Calls P (ρ.f 169) #[.pointer (some ⟨b, 0, none⟩)] w fun e w' => e = .returned (.string ⟨#[]⟩) ∧ Chg [] w w' := by
  have hUS := Any.unsafeString_none L X
  have c1 : w.drew.cell? ⟨b, 1, none⟩ = some (.slice (some ⟨g, 0, none⟩) 0 cap) := by
    have : w.drew.heap[b]? = some (.cells #[p, .slice (some ⟨g, 0, none⟩) 0 cap] (ρ.t 72) (0, 0)) := hbk
    rw [Lib.cell_of_heap this]; rfl
  have hSD : (Builtin.unsafeSliceData_ #[(ρ.t 37)] (ρ.t 127) #[.slice (some ⟨g, 0, none⟩) 0 cap]).run P w.drew = .ok (.pointer (some ⟨g, 0, none⟩)) w.drew :=
    Lib.run_unsafeSliceData_row _ _ _ _ _ _ hc0
  clear hc0
  have mixed := L.mixed
  have t72 := L.t72; have a72 := L.a72; have z72 := L.z72; have v72 := L.v72; have u72 := run_underlying L.t72
  have t70 := L.t70; have a70 := L.a70; have z70 := L.z70; have v70 := L.v70; have u70 := run_underlying L.t70
  have t37 := L.t37; have a37 := L.a37; have z37 := L.z37; have v37 := L.v37; have u37 := run_underlying L.t37
  have t127 := L.t127; have a127 := L.a127; have z127 := L.z127; have v127 := L.v127; have u127 := run_underlying L.t127
  have t3 := L.t3; have a3 := L.a3; have z3 := L.z3; have v3 := L.v3; have u3 := run_underlying L.t3
  have t9 := L.t9; have a9 := L.a9; have z9 := L.z9; have v9 := L.v9; have u9 := run_underlying L.t9
  have t5 := X.t5; have a5 := X.a5; have z5 := X.z5; have v5 := X.v5; have u5 := run_underlying X.t5
  go_enter L.f169, Body.n169_ntmps ρ
  go_wp2
  go_region_o
  all_goals (go_wp2; go_ret; exact ⟨rfl, (Chg.refl _ _).drewN 1⟩)

/-- (*strings.Builder).String: the builder is given up -/
theorem Bd.string {W w : World} {S R : List Own} {Φ : PW} [Stable Φ] {b : Nat} {l : List UInt8} (L : Lays.n169 P ρ) (X : Builder.Extra P ρ) (h : Bd (ρ.t 72) (ρ.t 5) b l R) (c : Ctx W w (R ++ S) Φ) {K : Ending → World → Prop}
    (hk : ∀ w', Ctx W w' S Φ → K (.returned (.string ⟨l.toArray⟩)) w') : Calls P (ρ.f 169) #[.pointer (some ⟨b, 0, none⟩)] w K := by
  obtain ⟨pa, p, cap, hpa, rfl⟩ := h
  have hbk : w.heap[b]? = some (.cells #[pa, .slice p l.length cap] (ρ.t 72) (0, 0)) := c.blk 0 rfl
  have hown : w.ownsRow 0 (ρ.t 5) 1 (.slice p l.length cap) l.length (Lib.byteCells l) := c.own _ (List.mem_cons_of_mem _ List.mem_cons_self)
  by_cases h0 : l = []
  · subst h0
    rcases hown.2 with ⟨e, _⟩ | ⟨g, cap', cur, e, _, hg, _⟩
    · cases e
      exact (builder_String_nil L X b pa w hbk).mono fun e w' ⟨he, hc⟩ => by subst he; exact hk w' (c.lose (hc.mono (by simp)))
    · cases e
      by_cases hc0 : cap = 0
      · subst hc0
        exact (builder_String_noroom L X b g pa cur w hbk hg).mono fun e w' ⟨he, hc⟩ => by subst he; exact hk w' (c.lose (hc.mono (by simp)))
      · exact (builder_String_room L X b g cap pa w hc0 hbk).mono fun e w' ⟨he, hc⟩ => by subst he; exact hk w' (c.lose (hc.mono (by simp)))
  · have hl0 : l.length ≠ 0 := by simpa using h0
    obtain ⟨g, rfl⟩ : ∃ g, p = some ⟨g, 0, none⟩ := by
      rcases hown.2 with ⟨_, hz⟩ | ⟨g, cap', cur, hv, _⟩
      · exact absurd hz hl0
      · cases hv; exact ⟨g, rfl⟩
    exact (builder_String_some L X b g cap pa l w h0 hbk hown).mono fun e w' ⟨he, hc⟩ => by subst he; exact hk w' (c.lose (hc.mono (by simp [dom, Own.dom])))

end

/-! ### tables -/
/-- a table of the library's, in a block that nobody writes -/
def Tab (P : Program) (name : String) (k : IntKind) (zs : List Int) : PW := fun M w => Lib.TabIs P w name k zs ∧ ∀ g, P.globalNamed name = some g → g ∉ M

instance instStableTab (P : Program) (name : String) (k : IntKind) (zs : List Int) : Stable (Tab P name k zs) := ⟨fun {M M' w w'} hs h => by
  obtain ⟨h1, h2⟩ := h
  unfold Lib.TabIs World.var? at h1
  cases hg : P.globalNamed name with
  | none => simp [hg] at h1
  | some g =>
    simp only [hg, Option.bind_some] at h1
    have hlt : g < w.heap.size := by
      rcases Nat.lt_or_ge g w.heap.size with h' | h'
      · exact h'
      · rw [Array.getElem?_eq_none h'] at h1; simp at h1
    refine ⟨?_, fun g' hg' hm => ?_⟩
    · unfold Lib.TabIs World.var?
      simp only [hg, Option.bind_some]
      rw [hs.chg.block g hlt (h2 g hg)]
      exact h1
    · rw [hg] at hg'
      cases hg'
      rcases hs.sub g hm with h | h
      · exact h2 g hg h
      · omega⟩

theorem Tab.start {P : Program} {name : String} {k : IntKind} {zs : List Int} {w : World} (h : Lib.TabIs P w name k zs) : Tab P name k zs [] w := ⟨h, fun _ _ => by simp⟩

theorem chg_grow {w : World} {k : Nat} {os : Array Obj} : Chg [] w (Sort.grow (w.drewN k) os) :=
  ⟨rfl, rfl, rfl, by show w.heap.size ≤ (w.heap ++ os).size; rw [Array.size_append]; omega, fun j hj _ => by
    show (w.heap ++ os)[j]? = w.heap[j]?
    rw [Array.getElem?_append_left hj]⟩

/-- strconv.Itoa -/
theorem itoa_in {P : Program} {f : FuncId} {Φ : PW} [Stable Φ] {name : String} (hI : ∀ (n : Int), -9223372036854775808 ≤ n → n ≤ 9223372036854775807 → ∀ w, Lib.TabIs P w name .u64 Lib.pow10Tab →
      Calls P f #[.int .i64 n] w fun e w' => e = .returned (.string ⟨(Lib.itoa n).toArray⟩) ∧ ∃ k os, w' = Sort.grow (w.drewN k) os)
    (hΦ : ∀ M w, Φ M w → Tab P name .u64 Lib.pow10Tab M w) (n : Int) (h : I64 n) : GivesIn Φ P f #[.int .i64 n] (.string ⟨(Lib.itoa n).toArray⟩) :=
  ⟨fun W w S c => (hI n (by unfold I64 at h; omega) (by unfold I64 at h; omega) w (hΦ _ _ c.phi).1).mono fun e w' ⟨he, k, os, hw⟩ => ⟨he, by rw [hw]; exact c.call chg_grow⟩⟩

/-! ### rows with laid tables -/
open Go.ChangeShapes Go.WideShapes Go.ChangeAt

end Go.Vc
end

/-
  Layings of the kit's shelf at this seat's numbers (printed by the kit's own tools).
-/
section
set_option linter.unusedVariables false
namespace Go.Proofs
open Go.Shelf

def Tryd.lays137_ren : Go.Shelf.Ren := ⟨fun | 137 => 65 | 217 => 71 | 266 => 76 | n => n, fun | 9 => 9 | 5 => 5 | 3 => 3 | n => n, fun | n => n⟩
theorem Tryd.lays137 : Go.Proofs.Lays.n137 Tryd.prog Tryd.lays137_ren := {
  mixed := by kernel_rfl
  f137 := Tryd.func65.trans (congrArg some (by kernel_rfl))
  f217 := Tryd.func71.trans (congrArg some (by kernel_rfl))
  f266 := Tryd.func76.trans (congrArg some (by kernel_rfl))
  t3 := Tryd.underlying3
  a3 := Tryd.isAgg3
  z3 := Tryd.sizeOf3
  v3 := Tryd.zeroValue3
  t5 := Tryd.underlying5
  a5 := Tryd.isAgg5
  z5 := Tryd.sizeOf5
  v5 := Tryd.zeroValue5
  t9 := Tryd.underlying9
  a9 := Tryd.isAgg9
  z9 := Tryd.sizeOf9
  v9 := Tryd.zeroValue9 }
def Tryd.lays103_ren : Go.Shelf.Ren := ⟨fun | 103 => 67 | 210 => 74 | 206 => 82 | n => n, fun | 9 => 9 | 4 => 4 | 24 => 89 | 3 => 3 | n => n, fun | n => n⟩
theorem Tryd.lays103 : Go.Proofs.Lays.n103 Tryd.prog Tryd.lays103_ren := {
  mixed := by kernel_rfl
  f103 := Tryd.func67.trans (congrArg some (by kernel_rfl))
  f206 := Tryd.func82.trans (congrArg some (by kernel_rfl))
  f210 := Tryd.func74.trans (congrArg some (by kernel_rfl))
  t3 := Tryd.underlying3
  a3 := Tryd.isAgg3
  z3 := Tryd.sizeOf3
  v3 := Tryd.zeroValue3
  t4 := Tryd.underlying4
  a4 := Tryd.isAgg4
  z4 := Tryd.sizeOf4
  v4 := Tryd.zeroValue4
  t9 := Tryd.underlying9
  a9 := Tryd.isAgg9
  z9 := Tryd.sizeOf9
  v9 := Tryd.zeroValue9
  t24 := Tryd.underlying89
  a24 := Tryd.isAgg89
  z24 := Tryd.sizeOf89
  v24 := Tryd.zeroValue89 }
def Tryd.laysM171_ren : Go.Shelf.Ren := ⟨fun | 171 => 53 | 243 => 68 | 246 => 75 | 283 => 83 | 284 => 84 | 285 => 85 | 286 => 86 | 129 => 91 | 317 => 90 | 318 => 92 | 319 => 93 | 320 => 94 | 337 => 97 | 338 => 98 | n => n, fun | 3 => 3 | 9 => 9 | 2 => 2 | 4 => 4 | 171 => 104 | 0 => 0 | 53 => 105 | 37 => 93 | 5 => 5 | 173 => 108 | 212 => 117 | 51 => 118 | 20 => 20 | 213 => 119 | 46 => 112 | 232 => 128 | 233 => 129 | n => n, fun | 17 => 3 | 18 => 4 | 19 => 5 | n => n⟩
theorem Tryd.laysM171 : Go.Proofs.LaysM.n171 Tryd.prog Tryd.laysM171_ren := {
  mixed := by kernel_rfl
  f129 := Tryd.func91.trans (congrArg some (by kernel_rfl))
  f171 := Tryd.func53.trans (congrArg some (by kernel_rfl))
  f243 := Tryd.func68.trans (congrArg some (by kernel_rfl))
  f246 := Tryd.func75.trans (congrArg some (by kernel_rfl))
  f283 := Tryd.func83.trans (congrArg some (by kernel_rfl))
  f284 := Tryd.func84.trans (congrArg some (by kernel_rfl))
  f285 := Tryd.func85.trans (congrArg some (by kernel_rfl))
  f286 := Tryd.func86.trans (congrArg some (by kernel_rfl))
  f317 := Tryd.func90.trans (congrArg some (by kernel_rfl))
  f318 := Tryd.func92.trans (congrArg some (by kernel_rfl))
  f319 := Tryd.func93.trans (congrArg some (by kernel_rfl))
  f320 := Tryd.func94.trans (congrArg some (by kernel_rfl))
  f337 := Tryd.func97.trans (congrArg some (by kernel_rfl))
  f338 := Tryd.func98.trans (congrArg some (by kernel_rfl))
  t0 := Tryd.underlying0
  a0 := Tryd.isAgg0
  z0 := Tryd.sizeOf0
  v0 := Tryd.zeroValue0
  t2 := Tryd.underlying2
  a2 := Tryd.isAgg2
  z2 := Tryd.sizeOf2
  v2 := Tryd.zeroValue2
  t3 := Tryd.underlying3
  a3 := Tryd.isAgg3
  z3 := Tryd.sizeOf3
  v3 := Tryd.zeroValue3
  t4 := Tryd.underlying4
  a4 := Tryd.isAgg4
  z4 := Tryd.sizeOf4
  v4 := Tryd.zeroValue4
  t5 := Tryd.underlying5
  a5 := Tryd.isAgg5
  z5 := Tryd.sizeOf5
  v5 := Tryd.zeroValue5
  t9 := Tryd.underlying9
  a9 := Tryd.isAgg9
  z9 := Tryd.sizeOf9
  v9 := Tryd.zeroValue9
  t20 := Tryd.underlying20
  a20 := Tryd.isAgg20
  z20 := Tryd.sizeOf20
  v20 := Tryd.zeroValue20
  t37 := Tryd.underlying93
  a37 := Tryd.isAgg93
  z37 := Tryd.sizeOf93
  v37 := Tryd.zeroValue93
  t46 := Tryd.underlying112
  a46 := Tryd.isAgg112
  z46 := Tryd.sizeOf112
  v46 := Tryd.zeroValue112
  t51 := Tryd.underlying118
  a51 := Tryd.isAgg118
  z51 := Tryd.sizeOf118
  v51 := Tryd.zeroValue118
  t53 := Tryd.underlying105
  a53 := Tryd.isAgg105
  z53 := Tryd.sizeOf105
  v53 := Tryd.zeroValue105
  t171 := Tryd.underlying104
  a171 := Tryd.isAgg104
  z171 := Tryd.sizeOf104
  v171 := Tryd.zeroValue104
  t173 := Tryd.underlying108
  a173 := Tryd.isAgg108
  z173 := Tryd.sizeOf108
  v173 := Tryd.zeroValue108
  t212 := Tryd.underlying117
  a212 := Tryd.isAgg117
  z212 := Tryd.sizeOf117
  v212 := Tryd.zeroValue117
  t213 := Tryd.underlying119
  a213 := Tryd.isAgg119
  z213 := Tryd.sizeOf119
  t232 := Tryd.underlying128
  a232 := Tryd.isAgg128
  z232 := Tryd.sizeOf128
  v232 := Tryd.zeroValue128
  t233 := Tryd.underlying129
  a233 := Tryd.isAgg129
  z233 := Tryd.sizeOf129
  v233 := Tryd.zeroValue129
  g17 := by kernel_rfl
  g18 := by kernel_rfl
  g19 := by kernel_rfl
  i0 := by kernel_rfl
  i2 := by kernel_rfl
  i3 := by kernel_rfl
  i4 := by kernel_rfl
  i5 := by kernel_rfl
  i9 := by kernel_rfl
  i20 := by kernel_rfl
  i37 := by kernel_rfl
  i46 := by kernel_rfl
  i51 := by kernel_rfl
  i53 := by kernel_rfl
  i171 := by kernel_rfl
  i173 := by kernel_rfl
  i212 := by kernel_rfl
  i232 := by kernel_rfl
  i233 := by kernel_rfl
  m17 := by kernel_rfl
  m18 := by kernel_rfl
  m19 := by kernel_rfl }
def Tryd.lays171_ren : Go.Shelf.Ren := ⟨fun | 171 => 53 | 243 => 68 | 246 => 75 | 283 => 83 | 284 => 84 | 285 => 85 | 286 => 86 | 129 => 91 | 317 => 90 | 318 => 92 | 319 => 93 | 320 => 94 | 337 => 97 | 338 => 98 | n => n, fun | 3 => 3 | 9 => 9 | 2 => 2 | 4 => 4 | 171 => 104 | 0 => 0 | 53 => 105 | 37 => 93 | 5 => 5 | 173 => 108 | 212 => 117 | 51 => 118 | 20 => 20 | 213 => 119 | 46 => 112 | 232 => 128 | 233 => 129 | n => n, fun | 17 => 3 | 18 => 4 | 19 => 5 | n => n⟩
theorem Tryd.lays171 : Go.Proofs.Lays.n171 Tryd.prog Tryd.lays171_ren := {
  mixed := by kernel_rfl
  f129 := Tryd.func91.trans (congrArg some (by kernel_rfl))
  f171 := Tryd.func53.trans (congrArg some (by kernel_rfl))
  f243 := Tryd.func68.trans (congrArg some (by kernel_rfl))
  f246 := Tryd.func75.trans (congrArg some (by kernel_rfl))
  f283 := Tryd.func83.trans (congrArg some (by kernel_rfl))
  f284 := Tryd.func84.trans (congrArg some (by kernel_rfl))
  f285 := Tryd.func85.trans (congrArg some (by kernel_rfl))
  f286 := Tryd.func86.trans (congrArg some (by kernel_rfl))
  f317 := Tryd.func90.trans (congrArg some (by kernel_rfl))
  f318 := Tryd.func92.trans (congrArg some (by kernel_rfl))
  f319 := Tryd.func93.trans (congrArg some (by kernel_rfl))
  f320 := Tryd.func94.trans (congrArg some (by kernel_rfl))
  f337 := Tryd.func97.trans (congrArg some (by kernel_rfl))
  f338 := Tryd.func98.trans (congrArg some (by kernel_rfl))
  t0 := Tryd.underlying0
  a0 := Tryd.isAgg0
  z0 := Tryd.sizeOf0
  v0 := Tryd.zeroValue0
  t2 := Tryd.underlying2
  a2 := Tryd.isAgg2
  z2 := Tryd.sizeOf2
  v2 := Tryd.zeroValue2
  t3 := Tryd.underlying3
  a3 := Tryd.isAgg3
  z3 := Tryd.sizeOf3
  v3 := Tryd.zeroValue3
  t4 := Tryd.underlying4
  a4 := Tryd.isAgg4
  z4 := Tryd.sizeOf4
  v4 := Tryd.zeroValue4
  t5 := Tryd.underlying5
  a5 := Tryd.isAgg5
  z5 := Tryd.sizeOf5
  v5 := Tryd.zeroValue5
  t9 := Tryd.underlying9
  a9 := Tryd.isAgg9
  z9 := Tryd.sizeOf9
  v9 := Tryd.zeroValue9
  t20 := Tryd.underlying20
  a20 := Tryd.isAgg20
  z20 := Tryd.sizeOf20
  v20 := Tryd.zeroValue20
  t37 := Tryd.underlying93
  a37 := Tryd.isAgg93
  z37 := Tryd.sizeOf93
  v37 := Tryd.zeroValue93
  t46 := Tryd.underlying112
  a46 := Tryd.isAgg112
  z46 := Tryd.sizeOf112
  v46 := Tryd.zeroValue112
  t51 := Tryd.underlying118
  a51 := Tryd.isAgg118
  z51 := Tryd.sizeOf118
  v51 := Tryd.zeroValue118
  t53 := Tryd.underlying105
  a53 := Tryd.isAgg105
  z53 := Tryd.sizeOf105
  v53 := Tryd.zeroValue105
  t171 := Tryd.underlying104
  a171 := Tryd.isAgg104
  z171 := Tryd.sizeOf104
  v171 := Tryd.zeroValue104
  t173 := Tryd.underlying108
  a173 := Tryd.isAgg108
  z173 := Tryd.sizeOf108
  v173 := Tryd.zeroValue108
  t212 := Tryd.underlying117
  a212 := Tryd.isAgg117
  z212 := Tryd.sizeOf117
  v212 := Tryd.zeroValue117
  t213 := Tryd.underlying119
  a213 := Tryd.isAgg119
  z213 := Tryd.sizeOf119
  t232 := Tryd.underlying128
  a232 := Tryd.isAgg128
  z232 := Tryd.sizeOf128
  v232 := Tryd.zeroValue128
  t233 := Tryd.underlying129
  a233 := Tryd.isAgg129
  z233 := Tryd.sizeOf129
  v233 := Tryd.zeroValue129
  g17 := by kernel_rfl
  g18 := by kernel_rfl
  g19 := by kernel_rfl }
def Tryd.laysC172_ren : Go.Shelf.Ren := ⟨fun | 172 => 66 | 244 => 72 | 245 => 73 | 247 => 77 | 279 => 78 | 280 => 79 | 281 => 80 | 282 => 81 | 287 => 87 | 316 => 88 | 171 => 53 | 205 => 89 | 321 => 95 | 322 => 96 | 243 => 68 | 246 => 75 | 283 => 83 | 284 => 84 | 285 => 85 | 286 => 86 | 129 => 91 | 317 => 90 | 318 => 92 | 319 => 93 | 320 => 94 | 337 => 97 | 338 => 98 | n => n, fun | 9 => 9 | 3 => 3 | 75 => 86 | 76 => 87 | 4 => 4 | 5 => 5 | 167 => 97 | 37 => 93 | 0 => 0 | 85 => 98 | 2 => 2 | 168 => 100 | 53 => 105 | 175 => 110 | 46 => 112 | 210 => 114 | 127 => 123 | 145 => 126 | 143 => 124 | 21 => 21 | 171 => 104 | 173 => 108 | 212 => 117 | 51 => 118 | 20 => 20 | 213 => 119 | 232 => 128 | 233 => 129 | 80 => 52 | n => n, fun | 15 => 1 | 16 => 2 | 17 => 3 | 18 => 4 | 19 => 5 | n => n⟩
theorem Tryd.laysC172 : Go.Proofs.LaysC.n172 Tryd.prog Tryd.laysC172_ren := {
  mixed := by kernel_rfl
  f129 := Tryd.func91.trans (congrArg some (by kernel_rfl))
  f171 := Tryd.func53.trans (congrArg some (by kernel_rfl))
  f172 := Tryd.func66.trans (congrArg some (by kernel_rfl))
  f205 := Tryd.func89.trans (congrArg some (by kernel_rfl))
  f243 := Tryd.func68.trans (congrArg some (by kernel_rfl))
  f244 := Tryd.func72.trans (congrArg some (by kernel_rfl))
  f245 := Tryd.func73.trans (congrArg some (by kernel_rfl))
  f246 := Tryd.func75.trans (congrArg some (by kernel_rfl))
  f247 := Tryd.func77.trans (congrArg some (by kernel_rfl))
  f279 := Tryd.func78.trans (congrArg some (by kernel_rfl))
  f280 := Tryd.func79.trans (congrArg some (by kernel_rfl))
  f281 := Tryd.func80.trans (congrArg some (by kernel_rfl))
  f282 := Tryd.func81.trans (congrArg some (by kernel_rfl))
  f283 := Tryd.func83.trans (congrArg some (by kernel_rfl))
  f284 := Tryd.func84.trans (congrArg some (by kernel_rfl))
  f285 := Tryd.func85.trans (congrArg some (by kernel_rfl))
  f286 := Tryd.func86.trans (congrArg some (by kernel_rfl))
  f287 := Tryd.func87.trans (congrArg some (by kernel_rfl))
  f316 := Tryd.func88.trans (congrArg some (by kernel_rfl))
  f317 := Tryd.func90.trans (congrArg some (by kernel_rfl))
  f318 := Tryd.func92.trans (congrArg some (by kernel_rfl))
  f319 := Tryd.func93.trans (congrArg some (by kernel_rfl))
  f320 := Tryd.func94.trans (congrArg some (by kernel_rfl))
  f321 := Tryd.func95.trans (congrArg some (by kernel_rfl))
  f322 := Tryd.func96.trans (congrArg some (by kernel_rfl))
  f337 := Tryd.func97.trans (congrArg some (by kernel_rfl))
  f338 := Tryd.func98.trans (congrArg some (by kernel_rfl))
  t0 := Tryd.underlying0
  a0 := Tryd.isAgg0
  z0 := Tryd.sizeOf0
  v0 := Tryd.zeroValue0
  t2 := Tryd.underlying2
  a2 := Tryd.isAgg2
  z2 := Tryd.sizeOf2
  v2 := Tryd.zeroValue2
  t3 := Tryd.underlying3
  a3 := Tryd.isAgg3
  z3 := Tryd.sizeOf3
  v3 := Tryd.zeroValue3
  t4 := Tryd.underlying4
  a4 := Tryd.isAgg4
  z4 := Tryd.sizeOf4
  v4 := Tryd.zeroValue4
  t5 := Tryd.underlying5
  a5 := Tryd.isAgg5
  z5 := Tryd.sizeOf5
  v5 := Tryd.zeroValue5
  t9 := Tryd.underlying9
  a9 := Tryd.isAgg9
  z9 := Tryd.sizeOf9
  v9 := Tryd.zeroValue9
  t20 := Tryd.underlying20
  a20 := Tryd.isAgg20
  z20 := Tryd.sizeOf20
  v20 := Tryd.zeroValue20
  t21 := Tryd.underlying21
  a21 := Tryd.isAgg21
  z21 := Tryd.sizeOf21
  v21 := Tryd.zeroValue21
  t37 := Tryd.underlying93
  a37 := Tryd.isAgg93
  z37 := Tryd.sizeOf93
  v37 := Tryd.zeroValue93
  t46 := Tryd.underlying112
  a46 := Tryd.isAgg112
  z46 := Tryd.sizeOf112
  v46 := Tryd.zeroValue112
  t51 := Tryd.underlying118
  a51 := Tryd.isAgg118
  z51 := Tryd.sizeOf118
  v51 := Tryd.zeroValue118
  t53 := Tryd.underlying105
  a53 := Tryd.isAgg105
  z53 := Tryd.sizeOf105
  v53 := Tryd.zeroValue105
  t75 := Tryd.underlying86
  a75 := Tryd.isAgg86
  z75 := Tryd.sizeOf86
  v75 := Tryd.zeroValue86
  t76 := Tryd.underlying87
  a76 := Tryd.isAgg87
  z76 := Tryd.sizeOf87
  v76 := Tryd.zeroValue87
  t85 := Tryd.underlying98
  a85 := Tryd.isAgg98
  z85 := Tryd.sizeOf98
  v85 := Tryd.zeroValue98
  t127 := Tryd.underlying123
  a127 := Tryd.isAgg123
  z127 := Tryd.sizeOf123
  v127 := Tryd.zeroValue123
  t143 := Tryd.underlying124
  a143 := Tryd.isAgg124
  z143 := Tryd.sizeOf124
  v143 := Tryd.zeroValue124
  t145 := Tryd.underlying126
  a145 := Tryd.isAgg126
  z145 := Tryd.sizeOf126
  v145 := Tryd.zeroValue126
  t167 := Tryd.underlying97
  a167 := Tryd.isAgg97
  z167 := Tryd.sizeOf97
  v167 := Tryd.zeroValue97
  t168 := Tryd.underlying100
  a168 := Tryd.isAgg100
  z168 := Tryd.sizeOf100
  v168 := Tryd.zeroValue100
  t171 := Tryd.underlying104
  a171 := Tryd.isAgg104
  z171 := Tryd.sizeOf104
  v171 := Tryd.zeroValue104
  t173 := Tryd.underlying108
  a173 := Tryd.isAgg108
  z173 := Tryd.sizeOf108
  v173 := Tryd.zeroValue108
  t175 := Tryd.underlying110
  a175 := Tryd.isAgg110
  z175 := Tryd.sizeOf110
  v175 := Tryd.zeroValue110
  t210 := Tryd.underlying114
  a210 := Tryd.isAgg114
  z210 := Tryd.sizeOf114
  v210 := Tryd.zeroValue114
  t212 := Tryd.underlying117
  a212 := Tryd.isAgg117
  z212 := Tryd.sizeOf117
  v212 := Tryd.zeroValue117
  t213 := Tryd.underlying119
  a213 := Tryd.isAgg119
  z213 := Tryd.sizeOf119
  t232 := Tryd.underlying128
  a232 := Tryd.isAgg128
  z232 := Tryd.sizeOf128
  v232 := Tryd.zeroValue128
  t233 := Tryd.underlying129
  a233 := Tryd.isAgg129
  z233 := Tryd.sizeOf129
  v233 := Tryd.zeroValue129
  g15 := by kernel_rfl
  g16 := by kernel_rfl
  g17 := by kernel_rfl
  g18 := by kernel_rfl
  g19 := by kernel_rfl
  t80 := Tryd.underlying52
  a80 := Tryd.isAgg52
  z80 := Tryd.sizeOf52
  v80 := Tryd.zeroValue52
  i0 := by kernel_rfl
  i2 := by kernel_rfl
  i3 := by kernel_rfl
  i4 := by kernel_rfl
  i5 := by kernel_rfl
  i9 := by kernel_rfl
  i20 := by kernel_rfl
  i21 := by kernel_rfl
  i37 := by kernel_rfl
  i46 := by kernel_rfl
  i51 := by kernel_rfl
  i53 := by kernel_rfl
  i75 := by kernel_rfl
  i76 := by kernel_rfl
  i80 := by kernel_rfl
  i85 := by kernel_rfl
  i127 := by kernel_rfl
  i143 := by kernel_rfl
  i145 := by kernel_rfl
  i167 := by kernel_rfl
  i168 := by kernel_rfl
  i171 := by kernel_rfl
  i173 := by kernel_rfl
  i175 := by kernel_rfl
  i210 := by kernel_rfl
  i212 := by kernel_rfl
  i232 := by kernel_rfl
  i233 := by kernel_rfl
  m15 := by kernel_rfl
  m16 := by kernel_rfl
  m17 := by kernel_rfl
  m18 := by kernel_rfl
  m19 := by kernel_rfl
  c0 := by kernel_rfl
  c2 := by kernel_rfl
  c3 := by kernel_rfl
  c4 := by kernel_rfl
  c5 := by kernel_rfl
  c9 := by kernel_rfl
  c20 := by kernel_rfl
  c21 := by kernel_rfl
  c37 := by kernel_rfl
  c46 := by kernel_rfl
  c51 := by kernel_rfl
  c53 := by kernel_rfl
  c75 := by kernel_rfl
  c76 := by kernel_rfl
  c80 := by kernel_rfl
  c85 := by kernel_rfl
  c127 := by kernel_rfl
  c143 := by kernel_rfl
  c145 := by kernel_rfl
  c167 := by kernel_rfl
  c168 := by kernel_rfl
  c171 := by kernel_rfl
  c173 := by kernel_rfl
  c175 := by kernel_rfl
  c210 := by kernel_rfl
  c212 := by kernel_rfl
  c213 := by kernel_rfl
  c232 := by kernel_rfl
  c233 := by kernel_rfl }

end Go.Proofs
end

/-
  The conditions of the walks of some functions, one formula each; 'B<f>_run' says that they suffice. The formulas are printed by a program; the kernel compares them with the functions' code.
-/
section
namespace Go.Proofs.YtfpgbejdlikpgaaDoor
set_option linter.unusedVariables false
set_option linter.unusedSimpArgs false
set_option maxRecDepth 100000
open Go.Vc

/-- wire.Open -/
def Bwire_Open (s : ByteArray) (W : World) (R : List Own) (Φ : PW) (J : Value → World → Prop) : Prop :=
  ∀ (k0 : Nat) (w1 : World) (R2 : List Own), Ctx W w1 (Own.blk k0 [Value.string s, Value.bool false] 73 :: R ++ R2) Φ → J (Value.pointer (some (Addr.mk k0 0 none))) w1

theorem Bwire_Open_run (s : ByteArray) {W w : World} {R : List Own} {Φ : PW} [Stable Φ] {J : Value → World → Prop} (c : Ctx W w R Φ) (h : Bwire_Open s W R Φ J) : Calls Tryd.prog F.wire_Open #[.string s] w fun e w' => ∃ v, e = .returned v ∧ J v w' :=
  vcFS_sound (H := { keep := some [0, 2] }) (by rw [show vcFS Tryd.prog W { keep := some [0, 2] } F.wire_Open #[.string s] R Φ J = Bwire_Open s W R Φ J by kernel_rfl]; exact h) c

/-- (*wire.Reader).Int -/
def Bwire_Reader_Int (rB rO : Nat) (W : World) (R : List Own) (Φ : PW) (J : Value → World → Prop) : Prop :=
  ∀ (w0 : World) (R1 : List Own), Ctx W w0 (R ++ R1) Φ → Calls Tryd.prog F.wire_Reader_number #[Value.pointer (some (Addr.mk rB rO none)), Value.int IntKind.u8 59, Value.int IntKind.i64
  (-9223372036854775808)] w0 fun (e2 : Ending) (w3 : World) => ∃ (n4 : Int), e2 = Ending.returned (Value.int IntKind.i64 n4) ∧ ∃ (R5 : List Own), ∃ (Φ6 : PW), Stable Φ6 ∧ Ctx W w3 (R5 ++ R1)
  Φ6 ∧ ∀ (w7 : World) (R8 : List Own), Ctx W w7 (R5 ++ R8) Φ6 → J (Value.int IntKind.i64 n4) w7

theorem Bwire_Reader_Int_run (rB rO : Nat) {W w : World} {R : List Own} {Φ : PW} [Stable Φ] {J : Value → World → Prop} (c : Ctx W w R Φ) (h : Bwire_Reader_Int rB rO W R Φ J) : Calls Tryd.prog F.wire_Reader_Int #[.pointer (some ⟨rB, rO, none⟩)] w fun e w' => ∃ v, e = .returned v ∧ J v w' :=
  vcFS_sound (H := { keep := some [0, 2] }) (by rw [show vcFS Tryd.prog W { keep := some [0, 2] } F.wire_Reader_Int #[.pointer (some ⟨rB, rO, none⟩)] R Φ J = Bwire_Reader_Int rB rO W R Φ J by kernel_rfl]; exact h) c

/-- (*wire.Reader).Text -/
def Bwire_Reader_Text (rB rO : Nat) (W : World) (R : List Own) (Φ : PW) (J : Value → World → Prop) : Prop :=
  ∀ (w0 : World) (R1 : List Own), Ctx W w0 (R ++ R1) Φ → Calls Tryd.prog F.wire_Reader_number #[Value.pointer (some (Addr.mk rB rO none)), Value.int IntKind.u8 58, Value.int IntKind.i64 0] w0
  fun (e2 : Ending) (w3 : World) => ∃ (n4 : Int), e2 = Ending.returned (Value.int IntKind.i64 n4) ∧ ∃ (R5 : List Own), ∃ (Φ6 : PW), Stable Φ6 ∧ Ctx W w3 (R5 ++ R1) Φ6 ∧ ∀ (w7 : World) (R8 :
  List Own), Ctx W w7 (R5 ++ R8) Φ6 → ∃ (s9 : ByteArray), w7.cell? (Addr.mk rB rO none) = some (Value.string s9) ∧ Br (decide ((↑s9.size : Int) < n4)) (∀ (w10 : World) (R11 : List Own), Ctx W
  w10 (R5 ++ R11) Φ6 → Calls Tryd.prog F.wire_Reader_fail #[Value.pointer (some (Addr.mk rB rO none))] w10 fun (e12 : Ending) (w13 : World) => e12 = Ending.returned (Value.tuple #[]) ∧ ∃ (R14
  : List Own), ∃ (Φ15 : PW), Stable Φ15 ∧ Ctx W w13 (R14 ++ R11) Φ15 ∧ ∀ (w16 : World) (R17 : List Own), Ctx W w16 (R14 ++ R17) Φ15 → J (Value.string (ByteArray.mk #[])) w16) (∀ (w18 : World)
  (R19 : List Own), Ctx W w18 (R5 ++ R19) Φ6 → ∃ (s20 : ByteArray), w18.cell? (Addr.mk rB rO none) = some (Value.string s20) ∧ (0 ≤ n4 ∧ n4 ≤ (↑s20.size : Int)) ∧ ∀ (w21 : World) (R22 : List
  Own), Ctx W w21 (R5 ++ R22) Φ6 → ∃ (s23 : ByteArray), w21.cell? (Addr.mk rB rO none) = some (Value.string s23) ∧ (0 ≤ n4 ∧ n4 ≤ (↑s23.size : Int) ∧ s23.size ≤ s23.size) ∧ ∀ (w24 : World)
  (R25 : List Own), Ctx W w24 (R5 ++ R25) Φ6 → CanWrite w24 rB rO 1 ∧ ∀ (w26 : World), w26 = w24.setCell (Addr.mk rB rO none) (Value.string (s23.extract n4.toNat s23.size)) → ∃ (R27 : List
  Own), ∃ (Φ28 : PW), Stable Φ28 ∧ Ctx W w26 (R27 ++ R25) Φ28 ∧ ∀ (w29 : World) (R30 : List Own), Ctx W w29 (R27 ++ R30) Φ28 → Calls Tryd.prog F.wire_Reader_close #[Value.pointer (some
  (Addr.mk rB rO none)), Value.string (ByteArray.mk #[OfNat.ofNat 44])] w29 fun (e31 : Ending) (w32 : World) => e31 = Ending.returned (Value.tuple #[]) ∧ ∃ (R33 : List Own), ∃ (Φ34 : PW),
  Stable Φ34 ∧ Ctx W w32 (R33 ++ R30) Φ34 ∧ ∀ (w35 : World) (R36 : List Own), Ctx W w35 (R33 ++ R36) Φ34 → ∃ (c37 : Bool), w35.cell? (Addr.mk rB (rO + 1) none) = some (Value.bool c37) ∧ Br
  c37 (∀ (w38 : World) (R39 : List Own), Ctx W w38 (R33 ++ R39) Φ34 → J (Value.string (ByteArray.mk #[])) w38) (∀ (w40 : World) (R41 : List Own), Ctx W w40 (R33 ++ R41) Φ34 → J (Value.string
  (s20.extract 0 n4.toNat)) w40))

theorem Bwire_Reader_Text_run (rB rO : Nat) {W w : World} {R : List Own} {Φ : PW} [Stable Φ] {J : Value → World → Prop} (c : Ctx W w R Φ) (h : Bwire_Reader_Text rB rO W R Φ J) : Calls Tryd.prog F.wire_Reader_Text #[.pointer (some ⟨rB, rO, none⟩)] w fun e w' => ∃ v, e = .returned v ∧ J v w' :=
  vcFS_sound (H := { keep := some [0, 2, 3, 4, 13, 36] }) (by rw [show vcFS Tryd.prog W { keep := some [0, 2, 3, 4, 13, 36] } F.wire_Reader_Text #[.pointer (some ⟨rB, rO, none⟩)] R Φ J = Bwire_Reader_Text rB rO W R Φ J by kernel_rfl]; exact h) c

/-- (*wire.Reader).Done -/
def Bwire_Reader_Done (rB rO : Nat) (W : World) (R : List Own) (Φ : PW) (J : Value → World → Prop) : Prop :=
  ∀ (w0 : World) (R1 : List Own), Ctx W w0 (R ++ R1) Φ → ∃ (c2 : Bool), w0.cell? (Addr.mk rB (rO + 1) none) = some (Value.bool c2) ∧ ∃ (s3 : ByteArray), ((!c2) = true → w0.cell? (Addr.mk rB
  rO none) = some (Value.string s3)) ∧ ∀ (w4 : World) (R5 : List Own), Ctx W w4 (R ++ R5) Φ → J (Value.bool (!c2 && decide (s3 = ByteArray.mk #[]))) w4

theorem Bwire_Reader_Done_run (rB rO : Nat) {W w : World} {R : List Own} {Φ : PW} [Stable Φ] {J : Value → World → Prop} (c : Ctx W w R Φ) (h : Bwire_Reader_Done rB rO W R Φ J) : Calls Tryd.prog F.wire_Reader_Done #[.pointer (some ⟨rB, rO, none⟩)] w fun e w' => ∃ v, e = .returned v ∧ J v w' :=
  vcFS_sound (H := { keep := some [0, 2] }) (by rw [show vcFS Tryd.prog W { keep := some [0, 2] } F.wire_Reader_Done #[.pointer (some ⟨rB, rO, none⟩)] R Φ J = Bwire_Reader_Done rB rO W R Φ J by kernel_rfl]; exact h) c

/-- wire.Int -/
def Bwire_Int (n : Int) (W : World) (R : List Own) (Φ : PW) (J : Value → World → Prop) : Prop :=
  ∀ (w0 : World) (R1 : List Own), Ctx W w0 (R ++ R1) Φ → Calls Tryd.prog F.strconv_Itoa #[Value.int IntKind.i64 n] w0 fun (e2 : Ending) (w3 : World) => ∃ (s4 : ByteArray), e2 =
  Ending.returned (Value.string s4) ∧ ∃ (R5 : List Own), ∃ (Φ6 : PW), Stable Φ6 ∧ Ctx W w3 (R5 ++ R1) Φ6 ∧ (s4.size + (ByteArray.mk #[OfNat.ofNat 59]).size).le 9223372036854775807 ∧ ∀ (w7 :
  World) (R8 : List Own), Ctx W w7 (R5 ++ R8) Φ6 → J (Value.string (s4 ++ ByteArray.mk #[OfNat.ofNat 59])) w7

theorem Bwire_Int_run (n : Int) {W w : World} {R : List Own} {Φ : PW} [Stable Φ] {J : Value → World → Prop} (c : Ctx W w R Φ) (h : Bwire_Int n W R Φ J) : Calls Tryd.prog F.wire_Int #[.int .i64 n] w fun e w' => ∃ v, e = .returned v ∧ J v w' :=
  vcFS_sound (H := { keep := some [0, 2] }) (by rw [show vcFS Tryd.prog W { keep := some [0, 2] } F.wire_Int #[.int .i64 n] R Φ J = Bwire_Int n W R Φ J by kernel_rfl]; exact h) c

/-- wire.Text -/
def Bwire_Text (s : ByteArray) (W : World) (R : List Own) (Φ : PW) (J : Value → World → Prop) : Prop :=
  ∀ (w0 : World) (R1 : List Own), Ctx W w0 (R ++ R1) Φ → Calls Tryd.prog F.strconv_Itoa #[Value.int IntKind.i64 (↑s.size : Int)] w0 fun (e2 : Ending) (w3 : World) => ∃ (s4 : ByteArray), e2 =
  Ending.returned (Value.string s4) ∧ ∃ (R5 : List Own), ∃ (Φ6 : PW), Stable Φ6 ∧ Ctx W w3 (R5 ++ R1) Φ6 ∧ (s4.size + (ByteArray.mk #[OfNat.ofNat 58]).size).le 9223372036854775807 ∧ ((s4 ++
  ByteArray.mk #[OfNat.ofNat 58]).size + s.size).le 9223372036854775807 ∧ ((s4 ++ ByteArray.mk #[OfNat.ofNat 58] ++ s).size + (ByteArray.mk #[OfNat.ofNat 44]).size).le 9223372036854775807 ∧ ∀
  (w7 : World) (R8 : List Own), Ctx W w7 (R5 ++ R8) Φ6 → J (Value.string (s4 ++ ByteArray.mk #[OfNat.ofNat 58] ++ s ++ ByteArray.mk #[OfNat.ofNat 44])) w7

theorem Bwire_Text_run (s : ByteArray) {W w : World} {R : List Own} {Φ : PW} [Stable Φ] {J : Value → World → Prop} (c : Ctx W w R Φ) (h : Bwire_Text s W R Φ J) : Calls Tryd.prog F.wire_Text #[.string s] w fun e w' => ∃ v, e = .returned v ∧ J v w' :=
  vcFS_sound (H := { keep := some [0, 2] }) (by rw [show vcFS Tryd.prog W { keep := some [0, 2] } F.wire_Text #[.string s] R Φ J = Bwire_Text s W R Φ J by kernel_rfl]; exact h) c

/-- (*wire.Reader).Num -/
def Bwire_Reader_Num (rB rO : Nat) (W : World) (R : List Own) (Φ : PW) (J : Value → World → Prop) : Prop :=
  ∀ (w0 : World) (R1 : List Own), Ctx W w0 (R ++ R1) Φ → Calls Tryd.prog F.wire_Reader_number #[Value.pointer (some (Addr.mk rB rO none)), Value.int IntKind.u8 59, Value.int IntKind.i64 0] w0
  fun (e2 : Ending) (w3 : World) => ∃ (n4 : Int), e2 = Ending.returned (Value.int IntKind.i64 n4) ∧ ∃ (R5 : List Own), ∃ (Φ6 : PW), Stable Φ6 ∧ Ctx W w3 (R5 ++ R1) Φ6 ∧ ∀ (w7 : World) (R8 :
  List Own), Ctx W w7 (R5 ++ R8) Φ6 → J (Value.int IntKind.i64 n4) w7

theorem Bwire_Reader_Num_run (rB rO : Nat) {W w : World} {R : List Own} {Φ : PW} [Stable Φ] {J : Value → World → Prop} (c : Ctx W w R Φ) (h : Bwire_Reader_Num rB rO W R Φ J) : Calls Tryd.prog F.wire_Reader_Num #[.pointer (some ⟨rB, rO, none⟩)] w fun e w' => ∃ v, e = .returned v ∧ J v w' :=
  vcFS_sound (H := { keep := some [0, 2] }) (by rw [show vcFS Tryd.prog W { keep := some [0, 2] } F.wire_Reader_Num #[.pointer (some ⟨rB, rO, none⟩)] R Φ J = Bwire_Reader_Num rB rO W R Φ J by kernel_rfl]; exact h) c

/-- (*wire.Reader).Left -/
def Bwire_Reader_Left (rB rO : Nat) (W : World) (R : List Own) (Φ : PW) (J : Value → World → Prop) : Prop :=
  ∀ (w0 : World) (R1 : List Own), Ctx W w0 (R ++ R1) Φ → ∃ (s2 : ByteArray), w0.cell? (Addr.mk rB rO none) = some (Value.string s2) ∧ ∀ (w3 : World) (R4 : List Own), Ctx W w3 (R ++ R4) Φ → J
  (Value.int IntKind.i64 (↑s2.size : Int)) w3

theorem Bwire_Reader_Left_run (rB rO : Nat) {W w : World} {R : List Own} {Φ : PW} [Stable Φ] {J : Value → World → Prop} (c : Ctx W w R Φ) (h : Bwire_Reader_Left rB rO W R Φ J) : Calls Tryd.prog F.wire_Reader_Left #[.pointer (some ⟨rB, rO, none⟩)] w fun e w' => ∃ v, e = .returned v ∧ J v w' :=
  vcFS_sound (H := { keep := some [0, 2] }) (by rw [show vcFS Tryd.prog W { keep := some [0, 2] } F.wire_Reader_Left #[.pointer (some ⟨rB, rO, none⟩)] R Φ J = Bwire_Reader_Left rB rO W R Φ J by kernel_rfl]; exact h) c

/-- wire.Num -/
def Bwire_Num (n : Int) (W : World) (R : List Own) (Φ : PW) (J : Value → World → Prop) : Prop :=
  Br (decide (n < 0)) (∀ (w0 : World) (R1 : List Own), Ctx W w0 (R ++ R1) Φ → J (Value.string (ByteArray.mk #[])) w0) (∀ (w2 : World) (R3 : List Own), Ctx W w2 (R ++ R3) Φ → Calls Tryd.prog
  F.wire_Int #[Value.int IntKind.i64 n] w2 fun (e4 : Ending) (w5 : World) => ∃ (s6 : ByteArray), e4 = Ending.returned (Value.string s6) ∧ ∃ (R7 : List Own), ∃ (Φ8 : PW), Stable Φ8 ∧ Ctx W w5
  (R7 ++ R3) Φ8 ∧ ∀ (w9 : World) (R10 : List Own), Ctx W w9 (R7 ++ R10) Φ8 → J (Value.string s6) w9)

theorem Bwire_Num_run (n : Int) {W w : World} {R : List Own} {Φ : PW} [Stable Φ] {J : Value → World → Prop} (c : Ctx W w R Φ) (h : Bwire_Num n W R Φ J) : Calls Tryd.prog F.wire_Num #[.int .i64 n] w fun e w' => ∃ v, e = .returned v ∧ J v w' :=
  vcFS_sound (H := { keep := some [0, 2, 4] }) (by rw [show vcFS Tryd.prog W { keep := some [0, 2, 4] } F.wire_Num #[.int .i64 n] R Φ J = Bwire_Num n W R Φ J by kernel_rfl]; exact h) c

/-- (*wire.Reader).number -/
def Bwire_Reader_number (rB rO : Nat) (endx : Int) (least : Int) (W : World) (R : List Own) (Φ : PW) (J : Value → World → Prop) : Prop :=
  ∀ (w0 : World) (R1 : List Own), Ctx W w0 (R ++ R1) Φ → ∃ (s2 : ByteArray), w0.cell? (Addr.mk rB rO none) = some (Value.string s2) ∧ ∃ (s3 : ByteArray), w0.cell? (Addr.mk rB rO none) = some
  (Value.string s3) ∧ (0 ≤ min (↑s3.size : Int) 21 ∧ min (↑s3.size : Int) 21 ≤ (↑s2.size : Int)) ∧ ∀ (w4 : World) (R5 : List Own), Ctx W w4 (R ++ R5) Φ → Calls Tryd.prog F.strings_IndexByte
  #[Value.string (s2.extract 0 (min (↑s3.size : Int) 21).toNat), Value.int IntKind.u8 endx] w4 fun (e6 : Ending) (w7 : World) => ∃ (n8 : Int), e6 = Ending.returned (Value.int IntKind.i64 n8)
  ∧ ∃ (R9 : List Own), ∃ (Φ10 : PW), Stable Φ10 ∧ Ctx W w7 (R9 ++ R5) Φ10 ∧ Br (decide (n8 < 0)) (∀ (w11 : World) (R12 : List Own), Ctx W w11 (R9 ++ R12) Φ10 → Calls Tryd.prog
  F.wire_Reader_fail #[Value.pointer (some (Addr.mk rB rO none))] w11 fun (e13 : Ending) (w14 : World) => e13 = Ending.returned (Value.tuple #[]) ∧ ∃ (R15 : List Own), ∃ (Φ16 : PW), Stable
  Φ16 ∧ Ctx W w14 (R15 ++ R12) Φ16 ∧ ∀ (w17 : World) (R18 : List Own), Ctx W w17 (R15 ++ R18) Φ16 → J (Value.int IntKind.i64 0) w17) ((0 ≤ n8 ∧ n8 ≤ (↑(s2.extract 0 (min (↑s3.size : Int)
  21).toNat).size : Int)) ∧ ∀ (w19 : World) (R20 : List Own), Ctx W w19 (R9 ++ R20) Φ10 → Calls Tryd.prog F.strconv_Atoi #[Value.string ((s2.extract 0 (min (↑s3.size : Int) 21).toNat).extract
  0 n8.toNat)] w19 fun (e21 : Ending) (w22 : World) => (∃ (n23 : Int), e21 = Ending.returned (Value.tuple #[Value.int IntKind.i64 n23, Value.nilIface]) ∧ ∃ (R24 : List Own), ∃ (Φ25 : PW),
  Stable Φ25 ∧ Ctx W w22 (R24 ++ R20) Φ25 ∧ ∃ (R26 : List Own), ∃ (Φ27 : PW), Stable Φ27 ∧ (∀ (w28 : World) (R29 : List Own), Ctx W w28 (R24 ++ R29) Φ25 → Ctx W w28 (R26 ++ R29) Φ27) ∧ ∃ (c30
  : Bool), (∀ (w31 : World), Sem.run Tryd.prog ((eqGuard BinOp.neq 86 (Operand.tmp 36) (Operand.const Value.nilIface) Value.nilIface Value.nilIface) >>= fun _ => binOp BinOp.neq 86
  Value.nilIface Value.nilIface) w31 = Result.ok (Value.bool c30) w31) ∧ Br c30 (∀ (w33 : World) (R34 : List Own), Ctx W w33 (R24 ++ R34) Φ25 → Calls Tryd.prog F.wire_Reader_fail
  #[Value.pointer (some (Addr.mk rB rO none))] w33 fun (e35 : Ending) (w36 : World) => e35 = Ending.returned (Value.tuple #[]) ∧ ∃ (R37 : List Own), ∃ (Φ38 : PW), Stable Φ38 ∧ Ctx W w36 (R37
  ++ R34) Φ38 ∧ ∀ (w39 : World) (R40 : List Own), Ctx W w39 (R37 ++ R40) Φ38 → J (Value.int IntKind.i64 0) w39) ((0 ≤ n8 ∧ n8 ≤ (↑(s2.extract 0 (min (↑s3.size : Int) 21).toNat).size : Int)) ∧
  ∀ (w41 : World) (R42 : List Own), Ctx W w41 (R24 ++ R42) Φ25 → Calls Tryd.prog F.strconv_Itoa #[Value.int IntKind.i64 n23] w41 fun (e43 : Ending) (w44 : World) => ∃ (s45 : ByteArray), e43 =
  Ending.returned (Value.string s45) ∧ ∃ (R46 : List Own), ∃ (Φ47 : PW), Stable Φ47 ∧ Ctx W w44 (R46 ++ R42) Φ47 ∧ (∀ (w48 : World) (R49 : List Own), Ctx W w48 (R46 ++ R49) Φ47 → Ctx W w48
  (R26 ++ R49) Φ27) ∧ Br (decide (s45 ≠ (s2.extract 0 (min (↑s3.size : Int) 21).toNat).extract 0 n8.toNat)) (∀ (w50 : World) (R51 : List Own), Ctx W w50 (R46 ++ R51) Φ47 → Calls Tryd.prog
  F.wire_Reader_fail #[Value.pointer (some (Addr.mk rB rO none))] w50 fun (e52 : Ending) (w53 : World) => e52 = Ending.returned (Value.tuple #[]) ∧ ∃ (R54 : List Own), ∃ (Φ55 : PW), Stable
  Φ55 ∧ Ctx W w53 (R54 ++ R51) Φ55 ∧ ∀ (w56 : World) (R57 : List Own), Ctx W w56 (R54 ++ R57) Φ55 → J (Value.int IntKind.i64 0) w56) (Br (decide (n23 < least)) (∀ (w58 : World) (R59 : List
  Own), Ctx W w58 (R46 ++ R59) Φ47 → Calls Tryd.prog F.wire_Reader_fail #[Value.pointer (some (Addr.mk rB rO none))] w58 fun (e60 : Ending) (w61 : World) => e60 = Ending.returned (Value.tuple
  #[]) ∧ ∃ (R62 : List Own), ∃ (Φ63 : PW), Stable Φ63 ∧ Ctx W w61 (R62 ++ R59) Φ63 ∧ ∀ (w64 : World) (R65 : List Own), Ctx W w64 (R62 ++ R65) Φ63 → J (Value.int IntKind.i64 0) w64) (∀ (w66 :
  World) (R67 : List Own), Ctx W w66 (R46 ++ R67) Φ47 → ∃ (s68 : ByteArray), w66.cell? (Addr.mk rB rO none) = some (Value.string s68) ∧ I64 (n8 + 1) ∧ (0 ≤ n8 + 1 ∧ n8 + 1 ≤ (↑s68.size : Int)
  ∧ s68.size ≤ s68.size) ∧ ∀ (w69 : World) (R70 : List Own), Ctx W w69 (R46 ++ R70) Φ47 → CanWrite w69 rB rO 1 ∧ ∀ (w71 : World), w71 = w69.setCell (Addr.mk rB rO none) (Value.string
  (s68.extract (n8 + 1).toNat s68.size)) → ∃ (R72 : List Own), ∃ (Φ73 : PW), Stable Φ73 ∧ Ctx W w71 (R72 ++ R70) Φ73 ∧ ∀ (w74 : World) (R75 : List Own), Ctx W w74 (R72 ++ R75) Φ73 → J
  (Value.int IntKind.i64 n23) w74)))) ∨ ∃ (n76 : Int), ∃ (u77 : TypeId), ∃ (v78 : Value), e21 = Ending.returned (Value.tuple #[Value.int IntKind.i64 n76, Value.iface u77 v78]) ∧ ∃ (R79 : List
  Own), ∃ (Φ80 : PW), Stable Φ80 ∧ Ctx W w22 (R79 ++ R20) Φ80 ∧ ∃ (R81 : List Own), ∃ (Φ82 : PW), Stable Φ82 ∧ (∀ (w83 : World) (R84 : List Own), Ctx W w83 (R79 ++ R84) Φ80 → Ctx W w83 (R81
  ++ R84) Φ82) ∧ ∃ (c85 : Bool), (∀ (w86 : World), Sem.run Tryd.prog ((eqGuard BinOp.neq 86 (Operand.tmp 36) (Operand.const Value.nilIface) (Value.iface u77 v78) Value.nilIface) >>= fun _ =>
  binOp BinOp.neq 86 (Value.iface u77 v78) Value.nilIface) w86 = Result.ok (Value.bool c85) w86) ∧ Br c85 (∀ (w88 : World) (R89 : List Own), Ctx W w88 (R79 ++ R89) Φ80 → Calls Tryd.prog
  F.wire_Reader_fail #[Value.pointer (some (Addr.mk rB rO none))] w88 fun (e90 : Ending) (w91 : World) => e90 = Ending.returned (Value.tuple #[]) ∧ ∃ (R92 : List Own), ∃ (Φ93 : PW), Stable
  Φ93 ∧ Ctx W w91 (R92 ++ R89) Φ93 ∧ ∀ (w94 : World) (R95 : List Own), Ctx W w94 (R92 ++ R95) Φ93 → J (Value.int IntKind.i64 0) w94) ((0 ≤ n8 ∧ n8 ≤ (↑(s2.extract 0 (min (↑s3.size : Int)
  21).toNat).size : Int)) ∧ ∀ (w96 : World) (R97 : List Own), Ctx W w96 (R79 ++ R97) Φ80 → Calls Tryd.prog F.strconv_Itoa #[Value.int IntKind.i64 n76] w96 fun (e98 : Ending) (w99 : World) =>
  ∃ (s100 : ByteArray), e98 = Ending.returned (Value.string s100) ∧ ∃ (R101 : List Own), ∃ (Φ102 : PW), Stable Φ102 ∧ Ctx W w99 (R101 ++ R97) Φ102 ∧ (∀ (w103 : World) (R104 : List Own), Ctx W
  w103 (R101 ++ R104) Φ102 → Ctx W w103 (R81 ++ R104) Φ82) ∧ Br (decide (s100 ≠ (s2.extract 0 (min (↑s3.size : Int) 21).toNat).extract 0 n8.toNat)) (∀ (w105 : World) (R106 : List Own), Ctx W
  w105 (R101 ++ R106) Φ102 → Calls Tryd.prog F.wire_Reader_fail #[Value.pointer (some (Addr.mk rB rO none))] w105 fun (e107 : Ending) (w108 : World) => e107 = Ending.returned (Value.tuple
  #[]) ∧ ∃ (R109 : List Own), ∃ (Φ110 : PW), Stable Φ110 ∧ Ctx W w108 (R109 ++ R106) Φ110 ∧ ∀ (w111 : World) (R112 : List Own), Ctx W w111 (R109 ++ R112) Φ110 → J (Value.int IntKind.i64 0)
  w111) (Br (decide (n76 < least)) (∀ (w113 : World) (R114 : List Own), Ctx W w113 (R101 ++ R114) Φ102 → Calls Tryd.prog F.wire_Reader_fail #[Value.pointer (some (Addr.mk rB rO none))] w113
  fun (e115 : Ending) (w116 : World) => e115 = Ending.returned (Value.tuple #[]) ∧ ∃ (R117 : List Own), ∃ (Φ118 : PW), Stable Φ118 ∧ Ctx W w116 (R117 ++ R114) Φ118 ∧ ∀ (w119 : World) (R120 :
  List Own), Ctx W w119 (R117 ++ R120) Φ118 → J (Value.int IntKind.i64 0) w119) (∀ (w121 : World) (R122 : List Own), Ctx W w121 (R101 ++ R122) Φ102 → ∃ (s123 : ByteArray), w121.cell? (Addr.mk
  rB rO none) = some (Value.string s123) ∧ I64 (n8 + 1) ∧ (0 ≤ n8 + 1 ∧ n8 + 1 ≤ (↑s123.size : Int) ∧ s123.size ≤ s123.size) ∧ ∀ (w124 : World) (R125 : List Own), Ctx W w124 (R101 ++ R125)
  Φ102 → CanWrite w124 rB rO 1 ∧ ∀ (w126 : World), w126 = w124.setCell (Addr.mk rB rO none) (Value.string (s123.extract (n8 + 1).toNat s123.size)) → ∃ (R127 : List Own), ∃ (Φ128 : PW), Stable
  Φ128 ∧ Ctx W w126 (R127 ++ R125) Φ128 ∧ ∀ (w129 : World) (R130 : List Own), Ctx W w129 (R127 ++ R130) Φ128 → J (Value.int IntKind.i64 n76) w129))))

theorem Bwire_Reader_number_run (rB rO : Nat) (endx : Int) (least : Int) {W w : World} {R : List Own} {Φ : PW} [Stable Φ] {J : Value → World → Prop} (c : Ctx W w R Φ) (h : Bwire_Reader_number rB rO endx least W R Φ J) : Calls Tryd.prog F.wire_Reader_number #[.pointer (some ⟨rB, rO, none⟩), .int .u8 endx, .int .i64 least] w fun e w' => ∃ v, e = .returned v ∧ J v w' :=
  vcFS_sound (H := { keep := some [0, 1, 2, 6, 7, 8, 9, 10, 26, 50], stages := [(7, [.held [(0, true), (1, true), (2, true), (3, true), (5, true), (6, true), (7, true), (4, false)], .stage [8, 9, 10, 11, 12, 13, 14] none])] }) (by rw [show vcFS Tryd.prog W { keep := some [0, 1, 2, 6, 7, 8, 9, 10, 26, 50], stages := [(7, [.held [(0, true), (1, true), (2, true), (3, true), (5, true), (6, true), (7, true), (4, false)], .stage [8, 9, 10, 11, 12, 13, 14] none])] } F.wire_Reader_number #[.pointer (some ⟨rB, rO, none⟩), .int .u8 endx, .int .i64 least] R Φ J = Bwire_Reader_number rB rO endx least W R Φ J by kernel_rfl]; exact h) c

/-- (*wire.Reader).fail -/
def Bwire_Reader_fail (rB rO : Nat) (W : World) (R : List Own) (Φ : PW) (J : Value → World → Prop) : Prop :=
  ∀ (w0 : World) (R1 : List Own), Ctx W w0 (R ++ R1) Φ → CanWrite w0 rB rO 1 ∧ ∀ (w2 : World), w2 = w0.setCell (Addr.mk rB rO none) (Value.string (ByteArray.mk #[])) → ∃ (R3 : List Own), ∃
  (Φ4 : PW), Stable Φ4 ∧ Ctx W w2 (R3 ++ R1) Φ4 ∧ ∀ (w5 : World) (R6 : List Own), Ctx W w5 (R3 ++ R6) Φ4 → CanWrite w5 rB (rO + 1) 1 ∧ ∀ (w7 : World), w7 = w5.setCell (Addr.mk rB (rO + 1)
  none) (Value.bool true) → ∃ (R8 : List Own), ∃ (Φ9 : PW), Stable Φ9 ∧ Ctx W w7 (R8 ++ R6) Φ9 ∧ ∀ (w10 : World) (R11 : List Own), Ctx W w10 (R8 ++ R11) Φ9 → J (Value.tuple #[]) w10

theorem Bwire_Reader_fail_run (rB rO : Nat) {W w : World} {R : List Own} {Φ : PW} [Stable Φ] {J : Value → World → Prop} (c : Ctx W w R Φ) (h : Bwire_Reader_fail rB rO W R Φ J) : Calls Tryd.prog F.wire_Reader_fail #[.pointer (some ⟨rB, rO, none⟩)] w fun e w' => ∃ v, e = .returned v ∧ J v w' :=
  vcFS_sound (H := { keep := some [] }) (by rw [show vcFS Tryd.prog W { keep := some [] } F.wire_Reader_fail #[.pointer (some ⟨rB, rO, none⟩)] R Φ J = Bwire_Reader_fail rB rO W R Φ J by kernel_rfl]; exact h) c

/-- (*wire.Reader).close -/
def Bwire_Reader_close (rB rO : Nat) (endx : ByteArray) (W : World) (R : List Own) (Φ : PW) (J : Value → World → Prop) : Prop :=
  ∀ (w0 : World) (R1 : List Own), Ctx W w0 (R ++ R1) Φ → ∃ (s2 : ByteArray), w0.cell? (Addr.mk rB rO none) = some (Value.string s2) ∧ ∀ (w3 : World) (R4 : List Own), Ctx W w3 (R ++ R4) Φ →
  Calls Tryd.prog F.strings_CutPrefix #[Value.string s2, Value.string endx] w3 fun (e5 : Ending) (w6 : World) => ∃ (s7 : ByteArray), ∃ (c8 : Bool), e5 = Ending.returned (Value.tuple
  #[Value.string s7, Value.bool c8]) ∧ ∃ (R9 : List Own), ∃ (Φ10 : PW), Stable Φ10 ∧ Ctx W w6 (R9 ++ R4) Φ10 ∧ ∀ (w11 : World) (R12 : List Own), Ctx W w11 (R9 ++ R12) Φ10 → CanWrite w11 rB rO
  1 ∧ ∀ (w13 : World), w13 = w11.setCell (Addr.mk rB rO none) (Value.string s7) → ∃ (R14 : List Own), ∃ (Φ15 : PW), Stable Φ15 ∧ Ctx W w13 (R14 ++ R12) Φ15 ∧ Br (!c8) (∀ (w16 : World) (R17 :
  List Own), Ctx W w16 (R14 ++ R17) Φ15 → Calls Tryd.prog F.wire_Reader_fail #[Value.pointer (some (Addr.mk rB rO none))] w16 fun (e18 : Ending) (w19 : World) => e18 = Ending.returned
  (Value.tuple #[]) ∧ ∃ (R20 : List Own), ∃ (Φ21 : PW), Stable Φ21 ∧ Ctx W w19 (R20 ++ R17) Φ21 ∧ ∀ (w22 : World) (R23 : List Own), Ctx W w22 (R20 ++ R23) Φ21 → J (Value.tuple #[]) w22) (∀
  (w24 : World) (R25 : List Own), Ctx W w24 (R14 ++ R25) Φ15 → J (Value.tuple #[]) w24)

theorem Bwire_Reader_close_run (rB rO : Nat) (endx : ByteArray) {W w : World} {R : List Own} {Φ : PW} [Stable Φ] {J : Value → World → Prop} (c : Ctx W w R Φ) (h : Bwire_Reader_close rB rO endx W R Φ J) : Calls Tryd.prog F.wire_Reader_close #[.pointer (some ⟨rB, rO, none⟩), .string endx] w fun e w' => ∃ v, e = .returned v ∧ J v w' :=
  vcFS_sound (H := { keep := some [0, 4, 5, 20] }) (by rw [show vcFS Tryd.prog W { keep := some [0, 4, 5, 20] } F.wire_Reader_close #[.pointer (some ⟨rB, rO, none⟩), .string endx] R Φ J = Bwire_Reader_close rB rO endx W R Φ J by kernel_rfl]; exact h) c

end Go.Proofs.YtfpgbejdlikpgaaDoor
end

