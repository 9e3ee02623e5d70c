/-
  The cluster: a message arrives, or is lost.
-/
import Derived.Test.YtifgijoeckoojaaRn
set_option linter.unusedVariables false
set_option linter.unusedSimpArgs false
namespace Go.Proofs.Ytifgijoeckoojaa
open Go.Vc

def remL {α : Type} (l : List α) (n : Nat) : List α := l.take n ++ l.drop (n + 1)
def dropC (C : Cl) (n : Nat) : Cl := { C with sent := remL C.sent n }
def deliver (C : Cl) (m : MsgR) : Cl := callC C (pickZ m.to 3).toNat (hearP (C.nd (pickZ m.to 3).toNat).rep m)
def arriveC (C : Cl) (n : Int) (keep : Bool) : Cl :=
  match C.sent[(pickZ n C.sent.length).toNat]? with
  | none => C
  | some m => deliver (if keep then C else dropC C (pickZ n C.sent.length).toNat) m

theorem rem_len {α : Type} (l : List α) {n : Nat} (h : n < l.length) : (remL l n).length = l.length - 1 := by
  unfold remL
  rw [List.length_append, List.length_take, List.length_drop]
  omega

theorem drop_wf {C : Cl} (h : C.Wf) {n : Nat} (hn : n < C.sent.length) : (dropC C n).Wf :=
  ⟨h.rep, h.hard, h.stop, by have := h.sent; show (remL C.sent n).length ≤ 300; rw [rem_len _ hn]; omega⟩

theorem deliver_wf {C : Cl} (h : C.Wf) (m : MsgR) : (deliver C m).Wf := by
  have hp := pickZ_lt (n := m.to) (show (0 : Int) < 3 by decide)
  have hi : (pickZ m.to 3).toNat < 3 := by omega
  have := hear_wf (m := m) (h.rep _ hi).1
  exact call_wf h hi this.1 this.2

theorem arrive_wf {C : Cl} (h : C.Wf) (n : Int) (keep : Bool) : (arriveC C n keep).Wf := by
  unfold arriveC
  split
  · exact h
  · rename_i m hm
    have hlt := (List.getElem?_eq_some_iff.1 hm).1
    cases keep with
    | true => exact deliver_wf h m
    | false => exact deliver_wf (drop_wf h hlt) m

theorem sub0 (p : Option Addr) (s c : Nat) : subPtr p s 0 c = p := by
  unfold subPtr
  split
  · rfl
  · cases p with
    | none => rfl
    | some a => simp [Addr.add]

theorem msg_one (M : List Nat) (w : World) (cs : List Value) (x : MsgR) (h : Gv.rep M w cs x) : (cs.all fun u => oneC u) = true := by
  obtain ⟨p, c, e, _⟩ := msg_cells h
  rw [e]; rfl

theorem app_msgs {W w : World} {S : List Own} {Φ : PW} [Stable Φ] {p : Option Addr} {cap : Nat} {cs : List Value} {a b : List MsgR} {q : Option Addr} {c2 : Nat} (c : Ctx W w (.buf p a.length cap cs 37 9 :: S) Φ) (ha : ∀ M w, Φ M w → Elems M w cs a) (hsl : ∀ M w, Φ M w → Sl M w q b) (hlen : a.length + b.length < 100000000) :
    ∃ p' cap' w' cs', Sem.run Try.prog (builtin Builtin.append #[27, 27] 27 #[false, false] #[.slice p a.length cap, .slice q b.length c2]) w = .ok (.value (.slice p' (a ++ b).length cap')) w' ∧ Ctx W w' (.buf p' (a ++ b).length cap' cs' 37 9 :: S) (fun M w => Φ M w ∧ Elems M w cs' (a ++ b)) := by
  rcases Nat.eq_zero_or_pos b.length with h0 | h0
  · have hb : b = [] := List.eq_nil_of_length_eq_zero h0
    subst hb
    rw [List.append_nil]
    obtain ⟨i, z, e1, e2, _⟩ := appB_out (P := Try.prog) (ts := 27) (t := 37) (size := 9) (bytes := 88) (by kernel_rfl)
    exact ⟨p, cap, w, cs, run_app (c.append0 0 rfl e1 e2 q c2), c.weak fun M w h => ⟨h, ha M w h⟩⟩
  · obtain ⟨p', cap', w', news, hrun, _, cx'⟩ := Ctx.appSl (P := Try.prog) (α := MsgR) (ts := 27) (ty := 27) (kb := #[false, false]) (bytes := 88) (c2 := c2) c (by kernel_rfl) msg_one hsl h0 (by omega) (by omega)
    rw [← List.length_append] at hrun cx'
    exact ⟨p', cap', w', cs ++ news, hrun, cx'.weak fun M w h => ⟨h.1, (ha M w h.1).append h.2⟩⟩

/-- a message among those that are under way -/
theorem sent_at {M : List Nat} {w : World} {mc : List Value} {l : List MsgR} (h : Elems M w mc l) {j : Nat} {m : MsgR} (hj : l[j]? = some m) : ∃ p c, (mc.drop (j * 9)).take 9 = m.cells p c ∧ m.recs.length ≤ c ∧ c ≤ maxLen ∧ m.Ok := by
  obtain ⟨hlt, rfl⟩ := List.getElem?_eq_some_iff.1 hj
  obtain ⟨p, c, e, h1, h2, h3, _⟩ := msg_cells (h.2 j hlt)
  exact ⟨p, c, e, h1, h2, h3⟩

theorem sent_sl {M : List Nat} {w : World} {mc : List Value} {l : List MsgR} (h : Elems M w mc l) {j : Nat} {m : MsgR} (hj : l[j]? = some m) {p : Option Addr} {c : Nat} (e : (mc.drop (j * 9)).take 9 = m.cells p c) : Sl M w p m.recs := by
  obtain ⟨hlt, rfl⟩ := List.getElem?_eq_some_iff.1 hj
  have := h.2 j hlt
  rw [show (Gv.ty MsgR).size = 9 from rfl, e] at this
  exact msg_sl this

abbrev h3 (L : Lay) (C : Cl) : List Own := [.blk L.x (xCells L C) 34, .buf L.rp 3 L.rc (rCells L) 46 1, .buf L.sp 3 L.sc (sCells L C) 42 4]
abbrev R3 (L : Lay) (C : Cl) (G : List Own) : List Own := h3 L C ++ (repsO L C ++ G)
abbrev remF (L : Lay) (C : Cl) (Φ : PW) : PW := fun M w => CPhi Φ L C M w ∧ Sl M w L.tp C.sent
instance rem_stable (L : Lay) (C : Cl) (Φ : PW) [Stable Φ] : Stable (remF L C Φ) := instStableAnd (CPhi Φ L C) (fun M w => Sl M w L.tp C.sent)

/-- the first half of what is kept -/
theorem rem_one {W w : World} {L : Lay} {C : Cl} {G F : List Own} {Φ : PW} [Stable Φ] {k n : Nat} (cx : Ctx W w (.blk k [] 37 :: (clO L C ++ G) ++ F) (CPhi Φ L C)) (hn : n ≤ C.sent.length) (h300 : C.sent.length ≤ 300) :
    ∃ p' cap' w' cs, Sem.run Try.prog (builtin Builtin.append #[27, 27] 27 #[false, false] #[.slice (some ⟨k, 0, none⟩) 0 0, .slice (subPtr L.tp 9 0 L.tc) n L.tc]) w = .ok (.value (.slice p' n cap')) w' ∧
      C.sent.length ≤ L.tc ∧ Ctx W w' (.buf p' (C.sent.take n).length cap' cs 37 9 :: R3 L C G ++ F) (fun M w => remF L C Φ M w ∧ Elems M w cs (C.sent.take n)) := by
  have cx1 : Ctx W w (.buf L.tp C.sent.length L.tc L.mc 37 9 :: (.blk k [] 37 :: R3 L C G ++ F)) (CPhi Φ L C) := by
    refine cx.perm ?_
    refine ((List.Perm.cons (Own.blk k [] 37) (List.perm_middle (l₁ := h3 L C) (a := Own.buf L.tp C.sent.length L.tc L.mc 37 9) (l₂ := repsO L C ++ G ++ F))).trans ?_)
    refine (List.Perm.swap _ _ _).trans (List.Perm.of_eq (by simp))
  obtain ⟨cx2, hs, hl, hc, _⟩ := Ctx.freeze (α := MsgR) cx1 cx1.phi.2.1
  have cx3 := cx2.add (Ψ := fun M w => Sl M w L.tp C.sent) hs
  obtain ⟨p', cap', w', cs, hrun, cx4⟩ := Ctx.cloned (P := Try.prog) (α := MsgR) (l := C.sent.take n) (ts := 27) (ty := 27) (kb := #[false, false]) (bytes := 88) (c2 := L.tc) cx3 (by kernel_rfl) msg_one (fun M w h => Sl.take h.2 n) (by rw [List.length_take]; omega) (by omega)
  have htl : (C.sent.take n).length = n := by rw [List.length_take]; omega
  refine ⟨p', cap', w', cs, ?_, hc, cx4⟩
  rw [sub0]
  rw [htl] at hrun
  exact hrun

theorem rem_two {W w : World} {L : Lay} {C : Cl} {G F : List Own} {Φ : PW} [Stable Φ] {n : Nat} {p : Option Addr} {cap : Nat} {cs : List Value} (hn : n < C.sent.length) (h300 : C.sent.length ≤ 300) (hc : C.sent.length ≤ L.tc)
    (cx : Ctx W w (.buf p (C.sent.take n).length cap cs 37 9 :: R3 L C G ++ F) (fun M w => remF L C Φ M w ∧ Elems M w cs (C.sent.take n))) (c2 : Nat) :
    ∃ p' cap' w' cs', Sem.run Try.prog (builtin Builtin.append #[27, 27] 27 #[false, false] #[.slice p n cap, .slice (subPtr L.tp 9 (n + 1) L.tc) (C.sent.length - (n + 1)) c2]) w = .ok (.value (.slice p' (remL C.sent n).length cap')) w' ∧
      Ctx W w' (.buf p' (remL C.sent n).length cap' cs' 37 9 :: R3 L C G ++ F) (fun M w => CPhi Φ L C M w ∧ Elems M w cs' (remL C.sent n)) := by
  have htl : (C.sent.take n).length = n := by rw [List.length_take]; omega
  obtain ⟨p', cap', w', cs', hrun, cx'⟩ := app_msgs (b := C.sent.drop (n + 1)) (q := subPtr L.tp 9 (n + 1) L.tc) (c2 := c2) cx (fun M w h => h.2) (fun M w h => addr_sub h.1.2 (n + 1) hc) (by rw [htl, List.length_drop]; omega)
  rw [htl, List.length_drop] at hrun
  exact ⟨p', cap', w', cs', hrun, cx'.weak fun M w h => ⟨h.1.1.1, h.2⟩⟩

theorem rem_three {W w w' : World} {L : Lay} {C : Cl} {G F : List Own} {Φ : PW} [Stable Φ] {n : Nat} {p : Option Addr} {cap : Nat} {cs : List Value}
    (cx : Ctx W w (.buf p (remL C.sent n).length cap cs 37 9 :: R3 L C G ++ F) (fun M w => CPhi Φ L C M w ∧ Elems M w cs (remL C.sent n))) (hw : w' = w.setCell ⟨L.x, 2, none⟩ (.slice p (remL C.sent n).length cap)) :
    Ctx W w' (clO (L.sentAt p cap cs) (dropC C n) ++ G ++ F) (CPhi Φ (L.sentAt p cap cs) (dropC C n)) := by
  have cx2 := cx.put 1 hw rfl
  have e1 : heads (L.sentAt p cap cs) (dropC C n) = [.blk L.x [.slice L.rp 3 L.rc, .slice L.sp 3 L.sc, .slice p (remL C.sent n).length cap] 34, .buf L.rp 3 L.rc (rCells L) 46 1, .buf L.sp 3 L.sc (sCells L C) 42 4, .buf p (remL C.sent n).length cap cs 37 9] := rfl
  have e2 : repsO (L.sentAt p cap cs) (dropC C n) = repsO L C := rfl
  show Ctx W w' ((heads (L.sentAt p cap cs) (dropC C n) ++ repsO (L.sentAt p cap cs) (dropC C n)) ++ G ++ F) _
  rw [e1, e2]
  have cx4 : Ctx W w' ([.blk L.x [.slice L.rp 3 L.rc, .slice L.sp 3 L.sc, .slice p (remL C.sent n).length cap] 34, .buf L.rp 3 L.rc (rCells L) 46 1, .buf L.sp 3 L.sc (sCells L C) 42 4] ++ .buf p (remL C.sent n).length cap cs 37 9 :: (repsO L C ++ G ++ F)) (fun M w => CPhi Φ L C M w ∧ Elems M w cs (remL C.sent n)) := mid (Q := [.blk L.x [.slice L.rp 3 L.rc, .slice L.sp 3 L.sc, .slice p (remL C.sent n).length cap] 34, .buf L.rp 3 L.rc (rCells L) 46 1, .buf L.sp 3 L.sc (sCells L C) 42 4]) cx2
  exact cx4.weak fun M w h => ⟨h.1.1, h.2, h.1.2.2⟩

end Go.Proofs.Ytifgijoeckoojaa
