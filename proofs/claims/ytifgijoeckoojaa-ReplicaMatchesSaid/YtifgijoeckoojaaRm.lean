/-
  The cluster: done.
-/
import Derived.Test.YtifgijoeckoojaaRl
set_option linter.unusedVariables false
set_option linter.unusedSimpArgs false
namespace Go.Proofs.Ytifgijoeckoojaa
open Go.Vc

theorem pin_msg {M : List Nat} {w : World} {b o : Nat} {cs : List (List Value)} {l : List MsgR} (h : Pin b o cs l M w) {j : Nat} (hj : j < l.length) : ∃ p c, cs.getD j [] = l[j].cells p c ∧ l[j].recs.length ≤ c ∧ c ≤ maxLen ∧ l[j].Ok := by
  obtain ⟨_, h1, h2⟩ := h j hj
  obtain ⟨p, c, e, g1, g2, g3, _⟩ := msg_cells h2
  exact ⟨p, c, e, g1, g2, g3⟩

theorem pin_msgSl {M : List Nat} {w : World} {b o : Nat} {cs : List (List Value)} {l : List MsgR} (h : Pin b o cs l M w) {j : Nat} (hj : j < l.length) {p : Option Addr} {c : Nat} (e : cs.getD j [] = l[j].cells p c) : Sl M w p l[j].recs := by
  have := (h j hj).2.2
  rw [e] at this
  exact msg_sl this

theorem pin_msgAt {M : List Nat} {w : World} {b o : Nat} {cs : List (List Value)} {l : List MsgR} (h : Pin b o cs l M w) {j : Nat} (hj : j < l.length) {p : Option Addr} {c : Nat} (e : cs.getD j [] = l[j].cells p c) : RowAt w b (o + j * 9) (l[j].cells p c) := by
  have := (h j hj).2.1
  rw [e] at this
  exact this

theorem app_recs {W w : World} {S : List Own} {Φ : PW} [Stable Φ] {p : Option Addr} {cap : Nat} {a b : List RecD} {q : Option Addr} {c2 : Nat} (c : Ctx W w (.buf p a.length cap (recCells a) 55 2 :: S) Φ) (hsl : ∀ M w, Φ M w → Sl M w q b) (hlen : a.length + b.length < 100000000) :
    ∃ p' cap' w', Sem.run Try.prog (builtin Builtin.append #[35, 35] 35 #[false, false] #[.slice p a.length cap, .slice q b.length c2]) w = .ok (.value (.slice p' (a ++ b).length cap')) w' ∧ Ctx W w' (.buf p' (a ++ b).length cap' (recCells (a ++ b)) 55 2 :: S) Φ := by
  rcases Nat.eq_zero_or_pos b.length with h0 | h0
  · have hb : b = [] := List.eq_nil_of_length_eq_zero h0
    subst hb
    rw [List.append_nil]
    obtain ⟨i, z, e1, e2, _⟩ := appB_out (P := Try.prog) (ts := 35) (t := 55) (size := 2) (bytes := 24) (by kernel_rfl)
    exact ⟨p, cap, w, run_app (c.append0 0 rfl e1 e2 q c2), c⟩
  · obtain ⟨p', cap', w', news, hrun, _, cx'⟩ := Ctx.appSl (P := Try.prog) (α := RecD) (ts := 35) (ty := 35) (kb := #[false, false]) (bytes := 24) (c2 := c2) c (by kernel_rfl) rec_one hsl h0 (by omega) (by omega)
    have hnews := (elems_recs cx'.phi.2).1
    subst hnews
    rw [← List.length_append] at hrun cx'
    rw [← recs_app] at cx'
    exact ⟨p', cap', w', hrun, cx'.fst⟩

theorem s_set2 {L : Lay} {C : Cl} {i : Nat} {a b : Value} {n : Node} (hi : i < 3) (hn : nodeS n (L.lp i) (L.lc i) = [a, b, .slice (L.lp i) (C.nd i).slog.length (L.lc i), .int .i64 (C.nd i).stop]) : setL (sCells L C) (i * 4) [a, b] = sCells L (ndC C i n) := by
  match i, hi with
  | 0, _ =>
    simp only [sCells, ndC, put_self, put_ne C.nd n (show (1 : Nat) ≠ 0 by decide), put_ne C.nd n (show (2 : Nat) ≠ 0 by decide), hn]
    rfl
  | 1, _ =>
    simp only [sCells, ndC, put_self, put_ne C.nd n (show (0 : Nat) ≠ 1 by decide), put_ne C.nd n (show (2 : Nat) ≠ 1 by decide), hn]
    rfl
  | 2, _ =>
    simp only [sCells, ndC, put_self, put_ne C.nd n (show (0 : Nat) ≠ 2 by decide), put_ne C.nd n (show (1 : Nat) ≠ 2 by decide), hn]
    rfl

/-- the entries that node i has stored are others -/
def Lay.logAt (L : Lay) (i : Nat) (p : Option Addr) (c : Nat) : Lay := { L with lp := put L.lp i p, lc := put L.lc i c }

theorem s_setLog {L : Lay} {C : Cl} {i : Nat} {p : Option Addr} {c : Nat} {l : List RecD} (hi : i < 3) : setL (sCells L C) (i * 4 + 2) [.slice p l.length c] = sCells (L.logAt i p c) (ndC C i { C.nd i with slog := l }) := by
  match i, hi with
  | 0, _ => rfl
  | 1, _ => rfl
  | 2, _ => rfl

theorem ClS_log {L : Lay} {C : Cl} {i : Nat} {p : Option Addr} {c : Nat} {l : List RecD} (hi : i < 3) {M : List Nat} {w : World} (h : ClS L C M w) (hl : LogS M w p c l) : ClS (L.logAt i p c) (ndC C i { C.nd i with slog := l }) M w := by
  obtain ⟨h0, h1, h2, h3⟩ := h
  match i, hi with
  | 0, _ => exact ⟨h0, hl, h2, h3⟩
  | 1, _ => exact ⟨h0, h1, hl, h3⟩
  | 2, _ => exact ⟨h0, h1, h2, hl⟩

theorem reps_log {L : Lay} {C : Cl} {i : Nat} {p : Option Addr} {c : Nat} {l : List RecD} (hi : i < 3) : repsO (L.logAt i p c) (ndC C i { C.nd i with slog := l }) = repsO L C := by
  match i, hi with
  | 0, _ => rfl
  | 1, _ => rfl
  | 2, _ => rfl

theorem ndC_ndC {C : Cl} {i : Nat} {n n' : Node} : ndC (ndC C i n) i n' = ndC C i n' := by unfold ndC; simp only [put_put]
theorem ndC_id {C : Cl} {i : Nat} : ndC C i (C.nd i) = C := by unfold ndC; rw [put_id]
theorem ndC_at {C : Cl} {i : Nat} {n : Node} : (ndC C i n).nd i = n := put_self _ _ _

theorem rec0 (p : Option Addr) (c : Nat) : subPtr p 2 0 c = p := by
  unfold subPtr
  split
  · rfl
  · cases p with
    | none => rfl
    | some a => simp [Addr.add]

/-- one more message -/
def Lay.sentAt (L : Lay) (p : Option Addr) (c : Nat) (mc : List Value) : Lay := { L with tp := p, tc := c, mc := mc }

set_option maxHeartbeats 4000000 in
theorem done_use {W w : World} {L : Lay} {C : Cl} {G : List Own} {Φ : PW} [Stable Φ] (cx : Ctx W w (clO L C ++ G) (CPhi Φ L C)) {i : Nat} (hi : i < 3) (o : OutR) (q1 : Option Addr) (c1 : Nat) (q2 : Option Addr) (c2 : Nat) (hrecs : ∀ M w, Φ M w → Sl M w q1 o.recs) (hsend : ∀ M w, Φ M w → Sl M w q2 o.send)
    (hrl : o.recs.length ≤ 100000) (hsl : o.send.length ≤ 100000) (h300 : C.sent.length ≤ 300) (hsrc : o.src ≤ 100000) (hll : (C.nd i).slog.length ≤ 4000)
    (hn1 : (C.nd i).stop = 1 → newB i (C.nd i).sterm (C.nd i).svote (C.nd i).slog = true) (hn2 : (C.nd i).stop = 2 → newB i (keepN (saveN (C.nd i) o) o).sterm (keepN (saveN (C.nd i) o) o).svote (keepN (saveN (C.nd i) o) o).slog = true) {K : Ending → World → Prop}
    (hK : ∀ L' w', L'.x = L.x → Ctx W w' (clO L' (doneC C i o) ++ G) (CPhi Φ L' (doneC C i o)) → K (.returned (.bool true)) w') : Calls Try.prog F.erratalaw08_cluster_done #[.pointer (some ⟨L.x, 0, none⟩), .int .i64 i, outV o q1 c1 q2 c2] w K := by
  obtain ⟨⟨gs, hgs⟩, gp, hgp⟩ := lay_at cx
  obtain ⟨pb, po, pcs, hpp, cxp⟩ := cx.pin (hsend _ _ cx.phi.1)
  have hpcs : ∀ j, (hj : j < o.send.length) → ∃ p c, pcs.getD j [] = o.send[j].cells p c ∧ o.send[j].recs.length ≤ c ∧ c ≤ maxLen ∧ o.send[j].Ok := fun j hj => pin_msg cxp.phi.2 hj
  obtain ⟨Φ2, hΦ2⟩ : ∃ Φ2 : PW, (fun M w => Φ M w ∧ Pin pb po pcs o.send M w) = Φ2 := ⟨_, rfl⟩
  have hst2 : Stable Φ2 := by rw [← hΦ2]; infer_instance
  have hΦ21 : ∀ M w, Φ2 M w → Φ M w := fun M w h => by rw [← hΦ2] at h; exact h.1
  have hΦ22 : ∀ M w, Φ2 M w → Pin pb po pcs o.send M w := fun M w h => by rw [← hΦ2] at h; exact h.2
  have cx0 : Ctx W w (clO L C ++ G) (CPhi Φ2 L C) := cxp.weak fun M w h => ⟨by rw [← hΦ2]; exact ⟨h.1.1, h.2⟩, h.1.2⟩
  have hK' : ∀ L' w', L'.x = L.x → Ctx W w' (clO L' (doneC C i o) ++ G) (CPhi Φ2 L' (doneC C i o)) → K (.returned (.bool true)) w' := fun L' w' hx c => hK L' w' hx (c.weak fun M w h => ⟨hΦ21 M w h.1, h.2⟩)
  have hcap : (C.nd i).slog.length ≤ L.lc i := (cx.phi.2.logs hi).1
  clear cx cxp hK
  refine (Berratalaw08_cluster_done_run L.x 0 i o.save o.term o.vote o.src q1 o.recs.length c1 q2 o.send.length c2 (J := fun u w' => K (.returned u) w') cx0 ?_).mono fun e w' ⟨v, he, hj⟩ => by rw [he]; exact hj
  refine fun _ w F cx => ⟨L.sp, 3, L.sc, cx.get 0 rfl rfl, by omega, ptrK_intro gs 0 hgs fun w F cx => ⟨(C.nd i).stop, by rw [Int.toNat_natCast, Nat.zero_add]; exact cx.bufGet 2 rfl hgs (s_at hi (by decide) rfl), Br.intro (fun h1 => fun w F cx => ?_) (fun h1 => ?_)⟩⟩
  · have h1 := of_decide_eq_true h1
    refine start_use (gl cx) hi (hn1 h1) fun L' w hx cx => ⟨true, rfl, clO L' (startC C i) ++ G, CPhi Φ2 L' (startC C i), inferInstance, gr cx, fun w F cx => ?_⟩
    have hd : doneC C i o = startC C i := by unfold doneC; rw [if_pos h1]
    exact hK' L' w hx (by rw [hd]; exact cx.left)
  have h1 := of_decide_eq_false h1
  refine exI_mk (fun R' Φ' => R' = clO L (ndC C i (saveN (C.nd i) o)) ++ G ∧ Φ' = CPhi Φ2 L (ndC C i (saveN (C.nd i) o))) ⟨Br.intro (fun hs => fun w F cx => ⟨L.sp, 3, L.sc, cx.get 0 rfl rfl, by omega, ptrK_intro gs 0 hgs fun w F cx => ⟨cx.bufCan 2 rfl hgs (by show _ ≤ 12; rw [Int.toNat_natCast]; omega), fun w' hw' => ?_⟩⟩) (fun hs => ?_), ?_⟩
  · rw [Int.toNat_natCast, Nat.zero_add] at hw'
    have hsv : saveN (C.nd i) o = { C.nd i with sterm := o.term, svote := o.vote } := by unfold saveN; rw [if_pos hs]
    have cx1 := cx.bufPuts 2 rfl hgs (show 0 < 12 by decide) (o := i * 4) (vs := [.int .i64 o.term, .int .i64 o.vote]) (by show _ ≤ 12; simp; omega) hw'
    have hset : setL (sCells L C) (i * 4) [.int .i64 o.term, .int .i64 o.vote] = sCells L (ndC C i (saveN (C.nd i) o)) := s_set2 hi (by rw [hsv])
    have cx2 : Ctx W w' (clO L (ndC C i (saveN (C.nd i) o)) ++ G ++ F) (CPhi Φ2 L (ndC C i (saveN (C.nd i) o))) := by
      have e : heads L (ndC C i (saveN (C.nd i) o)) = [.blk L.x (xCells L C) 34, .buf L.rp 3 L.rc (rCells L) 46 1, .buf L.sp 3 L.sc (setL (sCells L C) (i * 4) [.int .i64 o.term, .int .i64 o.vote]) 42 4, .buf L.tp C.sent.length L.tc L.mc 37 9] := by rw [hset]; rfl
      show Ctx W w' ((heads L (ndC C i (saveN (C.nd i) o)) ++ repsO L (ndC C i (saveN (C.nd i) o))) ++ G ++ F) _
      rw [reps_nd hi (by rw [hsv]), e]
      exact cx1.weak fun M w h => ⟨h.1, (ClS_nd hi (by rw [hsv])).2 h.2⟩
    exact ⟨_, CPhi Φ2 L (ndC C i (saveN (C.nd i) o)), inferInstance, cx2, _, CPhi Φ2 L (ndC C i (saveN (C.nd i) o)), inferInstance, fun w F cx => cx, rfl, rfl⟩
  · have hsv : saveN (C.nd i) o = C.nd i := by unfold saveN; rw [if_neg (by rw [hs]; simp)]
    rw [hsv, ndC_id]
    exact ⟨_, CPhi Φ2 L C, inferInstance, fun w F cx => cx, rfl, rfl⟩
  rintro R1 Φ1 _ ⟨rfl, rfl⟩
  obtain ⟨n1, hn1e⟩ : ∃ n1, saveN (C.nd i) o = n1 := ⟨_, rfl⟩
  have hn1l : n1.slog = (C.nd i).slog := by rw [← hn1e]; unfold saveN; split <;> rfl
  have hn1s : n1.stop = (C.nd i).stop := by rw [← hn1e]; unfold saveN; split <;> rfl
  rw [hn1e] at hn2 ⊢
  obtain ⟨n2, hn2e⟩ : ∃ n2, keepN n1 o = n2 := ⟨_, rfl⟩
  have hn2s : n2.stop = (C.nd i).stop := by rw [← hn2e]; unfold keepN; split; exact hn1s; exact hn1s
  rw [hn2e] at hn2
  refine exI_mk (fun R' Φ' => ∃ L2 : Lay, L2.x = L.x ∧ R' = clO L2 (ndC C i n2) ++ G ∧ Φ' = CPhi Φ2 L2 (ndC C i n2)) ⟨Br.intro (fun hs => ?_) (fun hs => ?_), ?_⟩
  · -- the entries are replaced
    have hs := of_decide_eq_true hs
    obtain ⟨nn, hnn⟩ : ∃ nn : Nat, (min (o.src - 1) (n1.slog.length : Int)).toNat = nn := ⟨_, rfl⟩
    have hnl : nn ≤ n1.slog.length := by omega
    have hk2 : n2 = { n1 with slog := n1.slog.take nn ++ o.recs } := by rw [← hn2e]; unfold keepN; rw [if_pos hs, hnn]
    have hat : (ndC C i n1).nd i = n1 := ndC_at
    have hsub0 : ∀ {w : World} {F : List Own} {Ψ : PW} [Stable Ψ], Ctx W w (clO L (ndC C i n1) ++ G ++ F) Ψ → Ctx W w ([.blk L.x (xCells L C) 34, .buf L.sp 3 L.sc (sCells L (ndC C i n1)) 42 4] ++ F) (fun _ _ => True) := fun {w F Ψ} _ cx => by
      have h1 : Ctx W w (heads L (ndC C i n1) ++ (repsO L (ndC C i n1) ++ G ++ F)) Ψ := cx.re (by simp)
      exact (h1.weak fun _ _ _ => trivial).sub (List.Sublist.cons_cons _ (List.Sublist.cons _ (List.Sublist.cons_cons _ (List.Sublist.cons _ (List.sublist_append_right _ _)))))
    have hsub1 : ∀ {w : World} {F : List Own} {o1 : Own} {Ψ : PW} [Stable Ψ], Ctx W w (o1 :: (clO L (ndC C i n1) ++ G) ++ F) Ψ → Ctx W w ([.blk L.x (xCells L C) 34, .buf L.sp 3 L.sc (sCells L (ndC C i n1)) 42 4] ++ F) (fun _ _ => True) := fun cx => hsub0 cx.drop1
    refine ⟨[.blk L.x (xCells L C) 34, .buf L.sp 3 L.sc (sCells L (ndC C i n1)) 42 4], fun _ _ => True, inferInstance, fun w F cx => hsub0 cx, by unfold I64; omega, L.sp, 3, L.sc, fun w F cx => ⟨L.sp, 3, L.sc, cx.get 0 rfl rfl, rfl⟩, L.sp, 3, L.sc, fun w F cx => ⟨L.sp, 3, L.sc, cx.get 0 rfl rfl, rfl⟩, L.sp, 3, L.sc, fun w F cx => ⟨L.sp, 3, L.sc, cx.get 0 rfl rfl, rfl⟩, by omega, ptrK_intro gs 0 hgs ⟨by omega, ptrK_intro gs 0 hgs ?_⟩⟩
    have hrd : ∀ {w : World} {F : List Own}, Ctx W w ([.blk L.x (xCells L C) 34, .buf L.sp 3 L.sc (sCells L (ndC C i n1)) 42 4] ++ F) (fun _ _ => True) → w.cell? ⟨gs, 0 + (i : Int).toNat * 4 + 2, none⟩ = some (.slice (L.lp i) n1.slog.length (L.lc i)) := fun cx => by
      rw [Int.toNat_natCast, Nat.zero_add]
      refine cx.bufGet 1 rfl hgs (s_at hi (by decide) ?_)
      rw [hat]; rfl
    refine ⟨L.lp i, n1.slog.length, L.lc i, fun w F cx => ⟨_, _, _, hrd cx, rfl⟩, L.lp i, n1.slog.length, L.lc i, fun w F cx => ⟨_, _, _, hrd cx, rfl⟩, ?_, fun k => ⟨fun w F cx => hsub1 cx, fun w F cx => ?_⟩⟩
    · rw [← hn1l] at hcap
      omega
    rw [hnn, rec0]
    obtain ⟨p1, cap1, w1, cs1, hrun1, cx1⟩ := Ctx.cloned (P := Try.prog) (α := RecD) (l := n1.slog.take nn) (ts := 35) (ty := 35) (kb := #[false, false]) (bytes := 24) (c2 := L.lc i) cx (by kernel_rfl) rec_one (fun M w h => Sl.take (by have := h.2.log hi; rw [hat] at this; exact this) nn) (by rw [List.length_take]; omega) (by omega)
    obtain ⟨hcs1, _⟩ := elems_recs cx1.phi.2
    subst hcs1
    have htl : (n1.slog.take nn).length = nn := by rw [List.length_take]; omega
    rw [htl] at hrun1
    refine ⟨p1, nn, cap1, w1, hrun1, .buf p1 (n1.slog.take nn).length cap1 (recCells (n1.slog.take nn)) 55 2 :: (clO L (ndC C i n1) ++ G), CPhi Φ2 L (ndC C i n1), inferInstance, cx1.fst, fun w F cx => hsub1 cx, fun w F cx => ?_⟩
    obtain ⟨p2, cap2, w2, hrun2, cx2⟩ := app_recs (c2 := c1) cx (fun M w h => hrecs M w (hΦ21 M w h.1)) (by rw [htl]; omega)
    rw [htl] at hrun2
    refine ⟨p2, _, cap2, w2, hrun2, .buf p2 (n1.slog.take nn ++ o.recs).length cap2 (recCells (n1.slog.take nn ++ o.recs)) 55 2 :: (clO L (ndC C i n1) ++ G), CPhi Φ2 L (ndC C i n1), inferInstance, cx2, fun w F cx => hsub1 cx, by omega, ptrK_intro gs 0 hgs fun w F cx => ⟨cx.bufCan 3 rfl hgs (by show _ ≤ 12; rw [Int.toNat_natCast]; omega), fun w' hw' => ?_⟩⟩
    rw [Int.toNat_natCast, Nat.zero_add] at hw'
    have cx3 := cx.bufPuts 3 rfl hgs (show 0 < 12 by decide) (o := i * 4 + 2) (vs := [.slice p2 (n1.slog.take nn ++ o.recs).length cap2]) (by show _ ≤ 12; simp; omega) hw'
    have hset := s_setLog (L := L) (C := ndC C i n1) (i := i) (p := p2) (c := cap2) (l := n1.slog.take nn ++ o.recs) hi
    have hC2 : ndC C i n2 = ndC (ndC C i n1) i { (ndC C i n1).nd i with slog := n1.slog.take nn ++ o.recs } := by rw [ndC_ndC, hat, hk2]
    have cx4 : Ctx W w' (.buf p2 (n1.slog.take nn ++ o.recs).length cap2 (recCells (n1.slog.take nn ++ o.recs)) 55 2 :: (clO (L.logAt i p2 cap2) (ndC C i n2) ++ G ++ F)) (CPhi Φ2 L (ndC C i n1)) := by
      have e : heads (L.logAt i p2 cap2) (ndC C i n2) = [.blk L.x (xCells L (ndC C i n1)) 34, .buf L.rp 3 L.rc (rCells L) 46 1, .buf L.sp 3 L.sc (setL (sCells L (ndC C i n1)) (i * 4 + 2) [.slice p2 (n1.slog.take nn ++ o.recs).length cap2]) 42 4, .buf L.tp C.sent.length L.tc L.mc 37 9] := by rw [hset, ← hC2]; rfl
      have e2 : repsO (L.logAt i p2 cap2) (ndC C i n2) = repsO L (ndC C i n1) := by rw [hC2]; exact reps_log hi
      show Ctx W w' (.buf p2 (n1.slog.take nn ++ o.recs).length cap2 (recCells (n1.slog.take nn ++ o.recs)) 55 2 :: ((heads (L.logAt i p2 cap2) (ndC C i n2) ++ repsO (L.logAt i p2 cap2) (ndC C i n2)) ++ G ++ F)) _
      rw [e, e2]
      exact cx3
    have hok : ∀ x ∈ n1.slog.take nn ++ o.recs, x.Ok := fun x hx => by
      rcases List.mem_append.1 hx with hx | hx
      · have := cx4.phi.2.log hi
        rw [hat] at this
        exact sl_recOk this x (List.mem_of_mem_take hx)
      · exact sl_recOk (hrecs _ _ (hΦ21 _ _ cx4.phi.1)) x hx
    obtain ⟨cx5, hs5, _, hcap5, _⟩ := Ctx.freeze (α := RecD) cx4 (recs_elems hok)
    have cx6 : Ctx W w' (clO (L.logAt i p2 cap2) (ndC C i n2) ++ G ++ F) (CPhi Φ2 (L.logAt i p2 cap2) (ndC C i n2)) := (cx5.add (Ψ := fun M w => Sl M w p2 (n1.slog.take nn ++ o.recs)) hs5).weak fun M w h => ⟨h.1.1, by rw [hC2]; exact ClS_log hi h.1.2 ⟨hcap5, h.2⟩⟩
    exact ⟨_, CPhi Φ2 (L.logAt i p2 cap2) (ndC C i n2), inferInstance, cx6, _, CPhi Φ2 (L.logAt i p2 cap2) (ndC C i n2), inferInstance, fun w F cx => cx, L.logAt i p2 cap2, rfl, rfl, rfl⟩
  · have hk2 : n2 = n1 := by rw [← hn2e]; unfold keepN; rw [if_neg (of_decide_eq_false hs)]
    rw [hk2]
    exact ⟨_, CPhi Φ2 L (ndC C i n1), inferInstance, fun w F cx => cx, L, rfl, rfl, rfl⟩
  rintro R1 Φ1 _ ⟨L2, hx2, rfl, rfl⟩ w F cx
  have hat : (ndC C i n2).nd i = n2 := ndC_at
  have hdone : ¬ (C.nd i).stop = 2 → doneC C i o = { ndC C i n2 with sent := C.sent ++ o.send.take (300 - C.sent.length) } := fun h => by
    unfold doneC; rw [if_neg h1]; simp only; rw [if_neg h, hn1e, hn2e]; rfl
  have hdone2 : (C.nd i).stop = 2 → doneC C i o = startC (ndC C i n2) i := fun h => by
    unfold doneC; rw [if_neg h1]; simp only; rw [if_pos h, hn1e, hn2e]; rfl
  rw [← hx2]
  obtain ⟨⟨gs2, hgs2⟩, _⟩ := lay_at (gl cx)
  refine ⟨L2.sp, 3, L2.sc, cx.get 0 rfl rfl, by omega, ptrK_intro gs2 0 hgs2 fun w F cx => ⟨(C.nd i).stop, ?_, Br.intro (fun h2 => fun w F cx => ?_) (fun h2 => ?_)⟩⟩
  · rw [Int.toNat_natCast, Nat.zero_add]
    refine cx.bufGet 2 rfl hgs2 (s_at hi (by decide) ?_)
    rw [hat, ← hn2s]
    rfl
  · have h2 := of_decide_eq_true h2
    refine start_use (gl cx) hi (by rw [hat]; exact hn2 h2) fun L' w hx cx => ⟨true, rfl, clO L' (startC (ndC C i n2) i) ++ G, CPhi Φ2 L' (startC (ndC C i n2) i), inferInstance, gr cx, fun w F cx => ?_⟩
    exact hK' L' w (by rw [hx, hx2]) (by rw [hdone2 h2]; exact cx.left)
  have h2 := of_decide_eq_false h2
  refine exI_mk (fun jI R' Φ' kk => ∃ (j : Nat) (L3 : Lay), jI = j ∧ j ≤ o.send.length ∧ C.sent.length + j ≤ 300 ∧ L3.x = L2.x ∧ R' = clO L3 { ndC C i n2 with sent := C.sent ++ o.send.take j } ++ G ∧ Φ' = CPhi Φ2 L3 { ndC C i n2 with sent := C.sent ++ o.send.take j } ∧ kk = o.send.length - j)
    ⟨⟨clO L2 { ndC C i n2 with sent := C.sent ++ o.send.take 0 } ++ G, CPhi Φ2 L2 { ndC C i n2 with sent := C.sent ++ o.send.take 0 }, _, inferInstance, fun w F cx => by rw [List.take_zero, List.append_nil]; exact cx, 0, L2, rfl, Nat.zero_le _, by omega, rfl, rfl, rfl, rfl⟩, ?_⟩
  rintro jI R1 Φ1 kk _ ⟨j, L3, rfl, hj, hj3, hx3, rfl, rfl, rfl⟩ w F cx
  obtain ⟨C3, hC3⟩ : ∃ C3 : Cl, ({ ndC C i n2 with sent := C.sent ++ o.send.take j } : Cl) = C3 := ⟨_, rfl⟩
  have hs3 : C3.sent = C.sent ++ o.send.take j := by rw [← hC3]
  have hs3l : C3.sent.length = C.sent.length + j := by rw [hs3, List.length_append, List.length_take]; omega
  rw [hC3] at cx ⊢
  rw [← hx3]
  refine ⟨L3.tp, C3.sent.length, L3.tc, fun _ => cx.get 0 rfl rfl, Br.intro (fun hb => ?_) (fun hb => fun w F cx => ?_)⟩
  · simp only [Bool.and_eq_true, decide_eq_true_eq] at hb
    have hjl : j < o.send.length := by omega
    obtain ⟨mp, mcap, hme, hm1, hm2, hmo⟩ := hpcs j hjl
    have hpp' := hpp (by omega)
    generalize hmj : o.send[j] = m at hme hm1 hmo
    have hsubX : ∀ {w : World} {F A : List Own} {o1 : Own} {Ψ : PW} [Stable Ψ], Ctx W w (o1 :: .blk L3.x (xCells L3 C3) 34 :: A ++ F) Ψ → Ctx W w ([.blk L3.x (xCells L3 C3) 34] ++ F) Ψ := fun cx => cx.sub (List.Sublist.cons _ (List.Sublist.cons_cons _ (List.sublist_append_right _ _)))
    have hrow : ∀ {M : List Nat} {w : World}, CPhi Φ2 L3 C3 M w → RowAt w pb (po + j * 9) (m.cells mp mcap) := fun {M w} h => pin_msgAt (l := o.send) (hΦ22 _ _ h.1) hjl (by rw [hmj]; exact hme) |> fun h => by rw [hmj] at h; exact h
    have hmsl : ∀ {M : List Nat} {w : World}, CPhi Φ2 L3 C3 M w → Sl M w mp m.recs := fun {M w} h => pin_msgSl (l := o.send) (hΦ22 _ _ h.1) hjl (by rw [hmj]; exact hme) |> fun h => by rw [hmj] at h; exact h
    refine ⟨[.blk L3.x (xCells L3 C3) 34], CPhi Φ2 L3 C3, inferInstance, fun w F cx => cx.sub (List.Sublist.cons_cons _ (List.sublist_append_right _ _)), by omega, ptrK_intro pb po hpp' ⟨L3.tp, C3.sent.length, L3.tc, fun w F cx => ⟨L3.tp, C3.sent.length, L3.tc, cx.get 0 rfl rfl, rfl⟩, m.kind, m.src, m.to, m.term, m.index, m.prev, m.commit, m.yes, mp, m.recs.length, mcap, fun w F cx => ⟨m.kind, m.src, m.to, m.term, m.index, m.prev, m.commit, m.yes, mp, m.recs.length, mcap, by rw [Int.toNat_natCast]; exact hrow cx.phi, rfl⟩, fun k => ⟨fun w F cx => ?_, fun w F cx => ?_⟩⟩⟩
    · exact cx.sub (List.Sublist.cons _ (List.Sublist.cons_cons _ (List.sublist_append_right _ _)))
    have cx1 : Ctx W w (.blk k (m.cells mp mcap) 37 :: .buf L3.tp C3.sent.length L3.tc L3.mc 37 9 :: ([.blk L3.x (xCells L3 C3) 34, .buf L3.rp 3 L3.rc (rCells L3) 46 1, .buf L3.sp 3 L3.sc (sCells L3 C3) 42 4] ++ (repsO L3 C3 ++ G ++ F))) (CPhi Φ2 L3 C3) :=
      cx.perm (List.Perm.cons _ (List.perm_middle (l₁ := [Own.blk L3.x (xCells L3 C3) 34, Own.buf L3.rp 3 L3.rc (rCells L3) 46 1, Own.buf L3.sp 3 L3.sc (sCells L3 C3) 42 4])))
    obtain ⟨p', cap', w', hrun, _, cx'⟩ := Ctx.app1 (P := Try.prog) (ts := 27) (ty := 27) (kb := #[false, false]) (size := 9) (bytes := 88) cx1 (by kernel_rfl) (by omega) rfl rfl (by omega) (by omega)
    refine ⟨p', C3.sent.length + 1, cap', w', hrun, .buf p' (C3.sent.length + 1) cap' (L3.mc ++ m.cells mp mcap) 37 9 :: .blk L3.x (xCells L3 C3) 34 :: (.buf L3.rp 3 L3.rc (rCells L3) 46 1 :: .buf L3.sp 3 L3.sc (sCells L3 C3) 42 4 :: (repsO L3 C3 ++ G)), CPhi Φ2 L3 C3, inferInstance, cx', fun w F cx => hsubX cx, fun w F cx => ⟨cx.can 1 rfl (by simp), fun w' hw' => ?_⟩⟩
    have cx2 := cx.put 1 hw' rfl
    obtain ⟨C4, hC4⟩ : ∃ C4 : Cl, ({ ndC C i n2 with sent := C.sent ++ o.send.take (j + 1) } : Cl) = C4 := ⟨_, rfl⟩
    have hs4 : C4.sent = C3.sent ++ [m] := by rw [← hC4, hs3, List.append_assoc, List.take_succ_eq_append_getElem hjl, hmj]
    have hn4 : C4.nd = C3.nd := by rw [← hC4, ← hC3]
    have hl4 : C4.sent.length = C3.sent.length + 1 := by rw [hs4]; simp
    have cx3 : Ctx W w' (clO (L3.sentAt p' cap' (L3.mc ++ m.cells mp mcap)) C4 ++ G ++ F) (CPhi Φ2 (L3.sentAt p' cap' (L3.mc ++ m.cells mp mcap)) C4) := by
      have e1 : heads (L3.sentAt p' cap' (L3.mc ++ m.cells mp mcap)) C4 = [.blk L3.x [.slice L3.rp 3 L3.rc, .slice L3.sp 3 L3.sc, .slice p' (C3.sent.length + 1) cap'] 34, .buf L3.rp 3 L3.rc (rCells L3) 46 1, .buf L3.sp 3 L3.sc (sCells L3 C3) 42 4, .buf p' (C3.sent.length + 1) cap' (L3.mc ++ m.cells mp mcap) 37 9] := by
        simp only [heads, xCells, sCells, hl4, hn4, Lay.sentAt]
      have e2 : repsO (L3.sentAt p' cap' (L3.mc ++ m.cells mp mcap)) C4 = repsO L3 C3 := by
        simp only [repsO, repI, hn4, Lay.sentAt]
      show Ctx W w' ((heads (L3.sentAt p' cap' (L3.mc ++ m.cells mp mcap)) C4 ++ repsO (L3.sentAt p' cap' (L3.mc ++ m.cells mp mcap)) C4) ++ G ++ F) _
      rw [e1, e2]
      have cx4 : Ctx W w' ([.blk L3.x [.slice L3.rp 3 L3.rc, .slice L3.sp 3 L3.sc, .slice p' (C3.sent.length + 1) cap'] 34, .buf L3.rp 3 L3.rc (rCells L3) 46 1, .buf L3.sp 3 L3.sc (sCells L3 C3) 42 4] ++ .buf p' (C3.sent.length + 1) cap' (L3.mc ++ m.cells mp mcap) 37 9 :: (repsO L3 C3 ++ G ++ F)) (CPhi Φ2 L3 C3) := mid (Q := [.blk L3.x [.slice L3.rp 3 L3.rc, .slice L3.sp 3 L3.sc, .slice p' (C3.sent.length + 1) cap'] 34, .buf L3.rp 3 L3.rc (rCells L3) 46 1, .buf L3.sp 3 L3.sc (sCells L3 C3) 42 4]) cx2
      refine cx4.weak fun M w h => ⟨h.1, ?_, ?_⟩
      · show Elems M w (L3.mc ++ m.cells mp mcap) C4.sent
        rw [hs4]
        exact h.2.1.snoc (rep_msg hmo hm1 hm2 (hmsl h))
      · show LogS M w (L3.lp 0) (L3.lc 0) (C4.nd 0).slog ∧ LogS M w (L3.lp 1) (L3.lc 1) (C4.nd 1).slog ∧ LogS M w (L3.lp 2) (L3.lc 2) (C4.nd 2).slog
        rw [hn4]
        exact h.2.2
    exact ⟨_, CPhi Φ2 (L3.sentAt p' cap' (L3.mc ++ m.cells mp mcap)) C4, inferInstance, cx3, by unfold I64; omega, _, CPhi Φ2 (L3.sentAt p' cap' (L3.mc ++ m.cells mp mcap)) C4, o.send.length - (j + 1), inferInstance, fun w F cx => cx, ⟨j + 1, L3.sentAt p' cap' (L3.mc ++ m.cells mp mcap), rfl, hjl, by omega, rfl, by rw [hC4], by rw [hC4], rfl⟩, by omega⟩
  · have hfin : o.send.take j = o.send.take (300 - C.sent.length) := by
      simp only [Bool.and_eq_false_iff, decide_eq_false_iff_not] at hb
      rcases hb with hb | hb
      · rw [List.take_of_length_le (by omega), List.take_of_length_le (by omega)]
      · rw [show j = 300 - C.sent.length by omega]
    have hd : doneC C i o = C3 := by rw [hdone h2, ← hC3, hfin]
    exact hK' L3 w (by rw [hx3, hx2]) (by rw [hd]; exact cx.left)

end Go.Proofs.Ytifgijoeckoojaa
