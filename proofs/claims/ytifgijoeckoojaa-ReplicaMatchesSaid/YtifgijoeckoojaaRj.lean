/-
  Three replicas, what they have stored, and messages: in plain Lean, and where they lie; pick, few, SameRecs.
-/
import Derived.Test.YtifgijoeckoojaaRi
import Derived.Test.YtifgijoeckoojaaBp
import Derived.Test.YtifgijoeckoojaaBb
set_option linter.unusedVariables false
set_option linter.unusedSimpArgs false
namespace Go.Proofs.Ytifgijoeckoojaa
open Go.Vc

/-! ### in plain Lean -/
structure Node where
  rep : Rep
  sterm : Int
  svote : Int
  slog : List RecD
  stop : Int

structure Cl where
  nd : Nat → Node
  sent : List MsgR

def startN (i : Nat) (n : Node) : Node := { n with stop := 0, rep := newRep i n.sterm n.svote n.slog }
def saveN (n : Node) (o : OutR) : Node := if o.save = true then { n with sterm := o.term, svote := o.vote } else n
def keepN (n : Node) (o : OutR) : Node := if 0 < o.src then { n with slog := n.slog.take (min (o.src - 1) (n.slog.length : Int)).toNat ++ o.recs } else n
def startC (C : Cl) (i : Nat) : Cl := { C with nd := put C.nd i (startN i (C.nd i)) }
def repC (C : Cl) (i : Nat) (r : Rep) : Cl := { C with nd := put C.nd i { C.nd i with rep := r } }
/-- what a call of a replica says is done -/
def doneC (C : Cl) (i : Nat) (o : OutR) : Cl :=
  if (C.nd i).stop = 1 then startC C i
  else
    let C1 : Cl := { C with nd := put C.nd i (keepN (saveN (C.nd i) o) o) }
    if (C.nd i).stop = 2 then startC C1 i
    else { C1 with sent := C.sent ++ o.send.take (300 - C.sent.length) }

def pickZ (n m : Int) : Int := if m < 1 then 0 else n.emod m

theorem pickZ_lt {n m : Int} (h : 0 < m) : 0 ≤ pickZ n m ∧ pickZ n m < m := by
  unfold pickZ
  rw [if_neg (by omega)]
  exact ⟨Int.emod_nonneg _ (by omega), Int.emod_lt_of_pos _ h⟩

theorem tmod_pick {n m : Int} (h : 0 < m) : (if n.tmod m < 0 then n.tmod m + m else n.tmod m) = n.emod m := by
  have h1 := Int.emod_nonneg n (show m ≠ 0 by omega)
  have h2 := Int.emod_lt_of_pos n h
  rcases Int.le_total 0 n with hn | hn
  · rw [Int.tmod_eq_emod_of_nonneg hn, if_neg (by omega)]
    rfl
  · have h3 : n.tmod m ≤ 0 := by
      have := Int.tmod_nonneg m (show 0 ≤ -n by omega)
      rw [Int.neg_tmod] at this
      omega
    have h4 : -m < n.tmod m := by
      have := Int.tmod_lt_of_pos (-n) h
      rw [Int.neg_tmod] at this
      omega
    have h5 : (n.tmod m).emod m = n.emod m := by
      have e := Int.tmod_add_mul_tdiv n m
      have : n = n.tmod m + m * n.tdiv m := by omega
      conv => rhs; rw [this]
      exact (Int.add_mul_emod_self_left _ _ _).symm
    by_cases hz : n.tmod m < 0
    · rw [if_pos hz]
      have : (n.tmod m + m).emod m = n.emod m := by
        rw [← h5]
        have := Int.add_mul_emod_self_left (n.tmod m) m 1
        rwa [Int.mul_one] at this
      rw [← this]
      exact (Int.emod_eq_of_lt (by omega) (by omega)).symm
    · rw [if_neg hz, ← h5]
      exact (Int.emod_eq_of_lt (by omega) (by omega)).symm

theorem pick_q (n m : Int) (hm : I64 m) : Quiet Try.prog F.erratalaw08_pick #[.int .i64 n, .int .i64 m] (.int .i64 (pickZ n m)) :=
  quiet_of (fun w J h => Qerratalaw08_pick_run n m w J h) fun w => Br.intro (fun h => ⟨by unfold pickZ; rw [if_pos (of_decide_eq_true h)], rfl⟩) (fun h => by
    have h := of_decide_eq_false h
    have hp := tmod_pick (n := n) (show 0 < m by omega)
    have hl := pickZ_lt (n := n) (show 0 < m by omega)
    have hz : pickZ n m = n.emod m := by unfold pickZ; rw [if_neg (by omega)]
    refine ⟨by omega, Br.intro (fun h2 => ?_) (fun h2 => ?_)⟩
    · have h2 := of_decide_eq_true h2
      rw [if_pos h2] at hp
      unfold I64 at hm
      exact ⟨by unfold I64; omega, by rw [hz, hp], rfl⟩
    · have h2 := of_decide_eq_false h2
      rw [if_neg h2] at hp
      exact ⟨by rw [hz, hp], rfl⟩)

/-! ### few -/
structure OpR where
  op : Int
  who : Int
  n : Int
  data : ByteArray
instance : Gv OpR := Gv.via (β := Int × Int × Int × ByteArray) (fun x => (x.op, x.who, x.n, x.data)) (fun y => ⟨y.1, y.2.1, y.2.2.1, y.2.2.2⟩) (fun _ => rfl)

theorem sl_op {M : List Nat} {w : World} {b o : Nat} {l : List OpR} (h : Sl M w (some ⟨b, o, none⟩) l) {i : Nat} (hi : i < l.length) : RowAt w b (o + i * 4) [.int .i64 l[i].op, .int .i64 l[i].who, .int .i64 l[i].n, .string l[i].data] := by
  obtain ⟨b', o', cs, e, _, h3, _, _, rfl, ⟨rfl, _⟩, _, _, rfl, ⟨rfl, _⟩, _, _, rfl, ⟨rfl, _⟩, rfl, _⟩ := h i hi
  cases e
  exact h3

theorem few_in {Φ : PW} [Stable Φ] (p : Option Addr) (cap : Nat) (l : List OpR) (n : Int) (hΦ : ∀ M w, Φ M w → Sl M w p l) (hlen : l.length ≤ 9223372036854775807) :
    ∃ bf : Bool, GivesIn Φ Try.prog F.erratalaw08_few #[.slice p l.length cap, .int .i64 n] (.bool bf) ∧ (bf = true → (∀ x ∈ l, x.data.size ≤ 40) ∧ (l.length : Int) ≤ n) := by
  refine ⟨(l.all fun x => decide (x.data.size ≤ 40)) && decide ((l.length : Int) ≤ n), ?_, fun h => ?_⟩
  · refine .there (fun M w h => (hΦ M w h).there) fun hth => ?_
    refine gives_in (Berratalaw08_few_run p l.length cap n) fun W R => ?_
    refine exI_mk (fun iI R' Φ' k => ∃ i : Nat, iI = i ∧ i ≤ l.length ∧ R' = R ∧ Φ' = Φ ∧ k = l.length - i ∧ (l.all fun x => decide (x.data.size ≤ 40)) = ((l.drop i).all fun x => decide (x.data.size ≤ 40))) ⟨⟨R, Φ, _, inferInstance, fun w F c => c, 0, rfl, Nat.zero_le _, rfl, rfl, rfl, rfl⟩, ?_⟩
    rintro iI R1 Φ1 k _ ⟨i, rfl, hi, rfl, rfl, rfl, hs⟩
    refine Br.intro (fun hlt => ?_) (fun hge => fun w F cx => ⟨?_, cx.left⟩)
    · have hlt : i < l.length := by simpa using hlt
      obtain ⟨b, o, rfl⟩ := hth (by omega)
      rw [List.drop_eq_getElem_cons hlt, List.all_cons] at hs
      refine ⟨by omega, ptrK_intro b o rfl fun w F cx => ⟨l[i].data, by rw [Int.toNat_natCast]; exact sl_op (hΦ _ _ cx.phi) hlt 3 (by simp), Br.intro (fun h => fun w F cx => ⟨?_, cx.left⟩) (fun h => ⟨by unfold I64; omega, R1, Φ1, l.length - (i + 1), inferInstance, fun w F c => c, ⟨i + 1, rfl, hlt, rfl, rfl, rfl, ?_⟩, by omega⟩)⟩⟩
      · rw [hs, decide_eq_false (by have := of_decide_eq_true h; omega), Bool.false_and, Bool.false_and]
      · rw [hs, decide_eq_true (by have := of_decide_eq_false h; omega), Bool.true_and]
    · have hge : i = l.length := Nat.le_antisymm hi (by simpa using hge)
      rw [hs, hge, List.drop_length]
      rfl
  · simp only [Bool.and_eq_true, List.all_eq_true, decide_eq_true_eq] at h
    exact h

/-! ### SameRecs -/
theorem okAgg55 : okAgg Try.prog 55 = true := by kernel_rfl

theorem SameRecs_in {Φ : PW} [Stable Φ] (p q : Option Addr) (cap cap2 : Nat) (a b : List RecD) (hΦ : ∀ M w, Φ M w → Sl M w p a) (hΨ : ∀ M w, Φ M w → Sl M w q b) (hlen : a.length ≤ 1000000) :
    GivesIn Φ Try.prog F.errataref08_SameRecs #[.slice p a.length cap, .slice q b.length cap2] (.bool (decide (a = b))) := by
  refine .there (fun M w h => (hΦ M w h).there) fun hth => .there (fun M w h => (hΨ M w h).there) fun hth2 => ?_
  refine gives_in (Berrataref08_SameRecs_run p a.length cap q b.length cap2) fun W R => ?_
  refine Br.intro (fun h => fun w G cx => ⟨?_, cx.left⟩) (fun h => ?_)
  · rw [decide_eq_false]
    intro e
    have := of_decide_eq_true h
    rw [e] at this
    exact this rfl
  have hl : a.length = b.length := by have := of_decide_eq_false h; omega
  refine exI_mk (fun iI R' Φ' k => ∃ i : Nat, iI = i ∧ i ≤ a.length ∧ R' = R ∧ Φ' = Φ ∧ k = a.length - i ∧ a.take i = b.take i) ⟨⟨R, Φ, _, inferInstance, fun w F c => c, 0, rfl, Nat.zero_le _, rfl, rfl, rfl, rfl⟩, ?_⟩
  rintro iI R1 Φ1 k _ ⟨i, rfl, hi, rfl, rfl, rfl, hs⟩
  refine Br.intro (fun hlt => fun w G cx => ?_) (fun hge => fun w F cx => ⟨?_, cx.left⟩)
  · have hlt : i < a.length := by simpa using hlt
    have hltb : i < b.length := by omega
    obtain ⟨b1, o1, rfl⟩ := hth (by omega)
    obtain ⟨b2, o2, rfl⟩ := hth2 (by omega)
    refine ⟨by omega, ptrK_intro b1 o1 rfl ⟨a[i].term, a[i].data, by rw [Int.toNat_natCast]; exact sl_rec (hΦ _ _ cx.phi) hlt, by omega, ptrK_intro b2 o2 rfl ⟨b[i].term, b[i].data, by rw [Int.toNat_natCast]; exact sl_rec (hΨ _ _ cx.phi) hltb, okAgg55, Br.intro (fun h => fun w G cx => ⟨?_, cx.left⟩) (fun h => ⟨by unfold I64; omega, R1, Φ1, a.length - (i + 1), inferInstance, fun w F c => c, ⟨i + 1, rfl, hlt, rfl, rfl, rfl, ?_⟩, by omega⟩)⟩⟩⟩
    · rw [decide_eq_false]
      intro e
      subst e
      simp at h
    · have he : a[i] = b[i] := by
        simp only [Bool.not_eq_false', Bool.and_true, Bool.and_eq_true, decide_eq_true_eq] at h
        exact rec_ext.2 h
      rw [List.take_succ_eq_append_getElem hlt, List.take_succ_eq_append_getElem hltb, hs, he]
  · have hge : i = a.length := Nat.le_antisymm hi (by simpa using hge)
    rw [decide_eq_true]
    rw [hge, List.take_length, hl, List.take_length] at hs
    exact hs

/-! ### where it lies -/
structure Lay where
  x : Nat
  rp : Option Addr
  rc : Nat
  sp : Option Addr
  sc : Nat
  tp : Option Addr
  tc : Nat
  mc : List Value
  b : Nat → Nat
  p : Nat → Option Addr
  c : Nat → Nat
  lp : Nat → Option Addr
  lc : Nat → Nat

abbrev ptrV (b : Nat) : Value := .pointer (some ⟨b, 0, none⟩)
abbrev nodeS (n : Node) (p : Option Addr) (c : Nat) : List Value := [.int .i64 n.sterm, .int .i64 n.svote, .slice p n.slog.length c, .int .i64 n.stop]
abbrev sCells (L : Lay) (C : Cl) : List Value := nodeS (C.nd 0) (L.lp 0) (L.lc 0) ++ nodeS (C.nd 1) (L.lp 1) (L.lc 1) ++ nodeS (C.nd 2) (L.lp 2) (L.lc 2)
abbrev rCells (L : Lay) : List Value := [ptrV (L.b 0), ptrV (L.b 1), ptrV (L.b 2)]
abbrev xCells (L : Lay) (C : Cl) : List Value := [.slice L.rp 3 L.rc, .slice L.sp 3 L.sc, .slice L.tp C.sent.length L.tc]
abbrev heads (L : Lay) (C : Cl) : List Own := [.blk L.x (xCells L C) 34, .buf L.rp 3 L.rc (rCells L) 46 1, .buf L.sp 3 L.sc (sCells L C) 42 4, .buf L.tp C.sent.length L.tc L.mc 37 9]
abbrev repI (L : Lay) (C : Cl) (i : Nat) : List Own := repO (L.b i) (C.nd i).rep (L.p i) (L.c i)
abbrev repsO (L : Lay) (C : Cl) : List Own := repI L C 0 ++ (repI L C 1 ++ repI L C 2)
def restO (L : Lay) (C : Cl) (i : Nat) : List Own := if i = 0 then repI L C 1 ++ repI L C 2 else if i = 1 then repI L C 0 ++ repI L C 2 else repI L C 0 ++ repI L C 1
abbrev clO (L : Lay) (C : Cl) : List Own := heads L C ++ repsO L C

def LogS (M : List Nat) (w : World) (p : Option Addr) (c : Nat) (l : List RecD) : Prop := l.length ≤ c ∧ Sl M w p l
instance logs_stable (p : Option Addr) (c : Nat) (l : List RecD) : Stable (fun M w => LogS M w p c l) := instStableAnd (fun _ _ => l.length ≤ c) (fun M w => Sl M w p l)

def ClS (L : Lay) (C : Cl) : PW := fun M w => Elems M w L.mc C.sent ∧ (LogS M w (L.lp 0) (L.lc 0) (C.nd 0).slog ∧ LogS M w (L.lp 1) (L.lc 1) (C.nd 1).slog ∧ LogS M w (L.lp 2) (L.lc 2) (C.nd 2).slog)
instance cls_stable (L : Lay) (C : Cl) : Stable (ClS L C) :=
  have h1 : Stable (fun M w => Elems M w L.mc C.sent) := instStableElems L.mc C.sent
  have h2 : Stable (fun M w => LogS M w (L.lp 1) (L.lc 1) (C.nd 1).slog ∧ LogS M w (L.lp 2) (L.lc 2) (C.nd 2).slog) := instStableAnd (fun M w => LogS M w (L.lp 1) (L.lc 1) (C.nd 1).slog) (fun M w => LogS M w (L.lp 2) (L.lc 2) (C.nd 2).slog)
  have h3 : Stable (fun M w => LogS M w (L.lp 0) (L.lc 0) (C.nd 0).slog ∧ LogS M w (L.lp 1) (L.lc 1) (C.nd 1).slog ∧ LogS M w (L.lp 2) (L.lc 2) (C.nd 2).slog) := instStableAnd (fun M w => LogS M w (L.lp 0) (L.lc 0) (C.nd 0).slog) (fun M w => LogS M w (L.lp 1) (L.lc 1) (C.nd 1).slog ∧ LogS M w (L.lp 2) (L.lc 2) (C.nd 2).slog)
  instStableAnd (fun M w => Elems M w L.mc C.sent) (fun M w => LogS M w (L.lp 0) (L.lc 0) (C.nd 0).slog ∧ LogS M w (L.lp 1) (L.lc 1) (C.nd 1).slog ∧ LogS M w (L.lp 2) (L.lc 2) (C.nd 2).slog)

theorem ClS.logs {L : Lay} {C : Cl} {M : List Nat} {w : World} (h : ClS L C M w) {i : Nat} (hi : i < 3) : LogS M w (L.lp i) (L.lc i) (C.nd i).slog := by
  match i, hi with
  | 0, _ => exact h.2.1
  | 1, _ => exact h.2.2.1
  | 2, _ => exact h.2.2.2
theorem ClS.log {L : Lay} {C : Cl} {M : List Nat} {w : World} (h : ClS L C M w) {i : Nat} (hi : i < 3) : Sl M w (L.lp i) (C.nd i).slog := (h.logs hi).2

theorem reps_perm (L : Lay) (C : Cl) {i : Nat} (hi : i < 3) : (repsO L C).Perm (repI L C i ++ restO L C i) := by
  match i, hi with
  | 0, _ => exact List.Perm.refl _
  | 1, _ =>
    refine (List.Perm.of_eq (List.append_assoc (repI L C 0) (repI L C 1) (repI L C 2)).symm).trans ?_
    refine (List.Perm.append_right (repI L C 2) (List.perm_append_comm (l₁ := repI L C 0) (l₂ := repI L C 1))).trans ?_
    exact List.Perm.of_eq (List.append_assoc (repI L C 1) (repI L C 0) (repI L C 2))
  | 2, _ =>
    refine (List.Perm.of_eq (List.append_assoc (repI L C 0) (repI L C 1) (repI L C 2)).symm).trans ?_
    exact List.perm_append_comm

/-- one replica in front -/
theorem focus {W w : World} {L : Lay} {C : Cl} {G : List Own} {Φ : PW} [Stable Φ] {i : Nat} (hi : i < 3) (c : Ctx W w (clO L C ++ G) Φ) : Ctx W w (repI L C i ++ (heads L C ++ restO L C i ++ G)) Φ := by
  refine c.perm ?_
  rw [← List.append_assoc]
  refine List.Perm.append_right G ?_
  refine (List.Perm.append_left (heads L C) (reps_perm L C hi)).trans ?_
  rw [← List.append_assoc, ← List.append_assoc]
  exact List.Perm.append_right _ List.perm_append_comm

theorem unfocus {W w : World} {L : Lay} {C : Cl} {G : List Own} {Φ : PW} [Stable Φ] {i : Nat} (hi : i < 3) (c : Ctx W w (repI L C i ++ (heads L C ++ restO L C i ++ G)) Φ) : Ctx W w (clO L C ++ G) Φ := by
  refine c.perm (List.Perm.symm ?_)
  rw [← List.append_assoc]
  refine List.Perm.append_right G ?_
  refine (List.Perm.append_left (heads L C) (reps_perm L C hi)).trans ?_
  rw [← List.append_assoc, ← List.append_assoc]
  exact List.Perm.append_right _ List.perm_append_comm

/-- the places of replica i are others -/
def Lay.at (L : Lay) (i b : Nat) (p : Option Addr) (c : Nat) : Lay := { L with b := put L.b i b, p := put L.p i p, c := put L.c i c }

theorem put_self {α : Type} (f : Nat → α) (i : Nat) (x : α) : put f i x i = x := if_pos rfl
theorem put_ne {α : Type} (f : Nat → α) {i j : Nat} (x : α) (h : j ≠ i) : put f i x j = f j := if_neg h
theorem put_id {α : Type} (f : Nat → α) (i : Nat) : put f i (f i) = f := by
  funext j; unfold put; split
  · rename_i h; rw [h]
  · rfl

theorem rest_at {L : Lay} {C : Cl} {i b : Nat} {p : Option Addr} {c : Nat} {r : Rep} (hi : i < 3) : restO (L.at i b p c) (repC C i r) i = restO L C i := by
  match i, hi with
  | 0, _ => rfl
  | 1, _ => rfl
  | 2, _ => rfl

theorem repI_at {L : Lay} {C : Cl} {i b : Nat} {p : Option Addr} {c : Nat} {r : Rep} : repI (L.at i b p c) (repC C i r) i = repO b r p c := by
  simp only [repI, Lay.at, repC, put_self]

theorem heads_at {L : Lay} {C : Cl} {i : Nat} {p : Option Addr} {c : Nat} {r : Rep} (hi : i < 3) : heads (L.at i (L.b i) p c) (repC C i r) = heads L C := by
  simp only [heads, Lay.at, put_id]
  match i, hi with
  | 0, _ => rfl
  | 1, _ => rfl
  | 2, _ => rfl

theorem ClS_at {L : Lay} {C : Cl} {i b : Nat} {p : Option Addr} {c : Nat} {r : Rep} (hi : i < 3) {M : List Nat} {w : World} : ClS (L.at i b p c) (repC C i r) M w ↔ ClS L C M w := by
  match i, hi with
  | 0, _ => exact Iff.rfl
  | 1, _ => exact Iff.rfl
  | 2, _ => exact Iff.rfl

/-- after a call of replica i -/
theorem refocus {W w : World} {L : Lay} {C : Cl} {G : List Own} {Φ : PW} [Stable Φ] {i : Nat} (hi : i < 3) {r : Rep} {p : Option Addr} {c : Nat} (cx : Ctx W w (repO (L.b i) r p c ++ (heads L C ++ restO L C i ++ G)) Φ) :
    Ctx W w (clO (L.at i (L.b i) p c) (repC C i r) ++ G) Φ := by
  refine unfocus hi ?_
  rw [repI_at, heads_at hi, rest_at hi]
  exact cx

end Go.Proofs.Ytifgijoeckoojaa
