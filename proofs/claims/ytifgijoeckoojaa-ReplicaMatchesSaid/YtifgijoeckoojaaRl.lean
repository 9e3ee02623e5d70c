/-
  The cluster: start.
-/
import Derived.Test.YtifgijoeckoojaaRk
set_option linter.unusedVariables false
set_option linter.unusedSimpArgs false
namespace Go.Proofs.Ytifgijoeckoojaa
open Go.Vc

def CPhi (Φ : PW) (L : Lay) (C : Cl) : PW := fun M w => Φ M w ∧ ClS L C M w
instance cphi_stable (Φ : PW) [Stable Φ] (L : Lay) (C : Cl) : Stable (CPhi Φ L C) := instStableAnd Φ (ClS L C)

/-- the node i is another one, with the same entries stored -/
def ndC (C : Cl) (i : Nat) (n : Node) : Cl := { C with nd := put C.nd i n }

theorem put_put {α : Type} (f : Nat → α) (i : Nat) (x y : α) : put (put f i x) i y = put f i y := by
  funext j; unfold put; split <;> rfl

theorem repC_nd {C : Cl} {i : Nat} {n : Node} {r : Rep} : repC (ndC C i n) i r = ndC C i { n with rep := r } := by
  unfold repC ndC
  simp only [put_put, put_self]

theorem ClS_nd {L : Lay} {C : Cl} {i : Nat} {n : Node} (hi : i < 3) (h : n.slog = (C.nd i).slog) {M : List Nat} {w : World} : ClS L (ndC C i n) M w ↔ ClS L C M w := by
  match i, hi with
  | 0, _ => unfold ClS ndC; simp only [put_self, put_ne C.nd n (show (1 : Nat) ≠ 0 by decide), put_ne C.nd n (show (2 : Nat) ≠ 0 by decide), h]
  | 1, _ => unfold ClS ndC; simp only [put_self, put_ne C.nd n (show (0 : Nat) ≠ 1 by decide), put_ne C.nd n (show (2 : Nat) ≠ 1 by decide), h]
  | 2, _ => unfold ClS ndC; simp only [put_self, put_ne C.nd n (show (0 : Nat) ≠ 2 by decide), put_ne C.nd n (show (1 : Nat) ≠ 2 by decide), h]

theorem reps_nd {L : Lay} {C : Cl} {i : Nat} {n : Node} (hi : i < 3) (h : n.rep = (C.nd i).rep) : repsO L (ndC C i n) = repsO L C := by
  match i, hi with
  | 0, _ => simp only [repsO, repI, ndC, put_self, put_ne C.nd n (show (1 : Nat) ≠ 0 by decide), put_ne C.nd n (show (2 : Nat) ≠ 0 by decide), h]
  | 1, _ => simp only [repsO, repI, ndC, put_self, put_ne C.nd n (show (0 : Nat) ≠ 1 by decide), put_ne C.nd n (show (2 : Nat) ≠ 1 by decide), h]
  | 2, _ => simp only [repsO, repI, ndC, put_self, put_ne C.nd n (show (0 : Nat) ≠ 2 by decide), put_ne C.nd n (show (1 : Nat) ≠ 2 by decide), h]

/-- the cells of what node i has stored -/
theorem s_row {L : Lay} {C : Cl} {i : Nat} (hi : i < 3) : ((sCells L C).drop (i * 4)).take 4 = nodeS (C.nd i) (L.lp i) (L.lc i) := by
  match i, hi with
  | 0, _ => rfl
  | 1, _ => rfl
  | 2, _ => rfl

theorem s_at {L : Lay} {C : Cl} {i k : Nat} (hi : i < 3) (hk : k < 4) {v : Value} (hv : (nodeS (C.nd i) (L.lp i) (L.lc i))[k]? = some v) : (sCells L C)[i * 4 + k]? = some v := by
  rw [← s_row hi, List.getElem?_take_of_lt hk, List.getElem?_drop] at hv
  exact hv

theorem s_set {L : Lay} {C : Cl} {i k : Nat} {v : Value} {n : Node} (hi : i < 3) (hk : k < 4) (hn : (nodeS (C.nd i) (L.lp i) (L.lc i)).set k v = nodeS n (L.lp i) (L.lc i)) : (sCells L C).set (i * 4 + k) v = sCells L (ndC C i n) := by
  match i, hi with
  | 0, _ =>
    simp only [sCells, ndC, put_self, put_ne C.nd n (show (1 : Nat) ≠ 0 by decide), put_ne C.nd n (show (2 : Nat) ≠ 0 by decide), ← hn]
    match k, hk with
    | 0, _ => rfl
    | 1, _ => rfl
    | 2, _ => rfl
    | 3, _ => rfl
  | 1, _ =>
    simp only [sCells, ndC, put_self, put_ne C.nd n (show (0 : Nat) ≠ 1 by decide), put_ne C.nd n (show (2 : Nat) ≠ 1 by decide), ← hn]
    match k, hk with
    | 0, _ => rfl
    | 1, _ => rfl
    | 2, _ => rfl
    | 3, _ => rfl
  | 2, _ =>
    simp only [sCells, ndC, put_self, put_ne C.nd n (show (0 : Nat) ≠ 2 by decide), put_ne C.nd n (show (1 : Nat) ≠ 2 by decide), ← hn]
    match k, hk with
    | 0, _ => rfl
    | 1, _ => rfl
    | 2, _ => rfl
    | 3, _ => rfl

theorem r_at {L : Lay} {i : Nat} (hi : i < 3) : (rCells L)[i]? = some (ptrV (L.b i)) := by
  match i, hi with
  | 0, _ => rfl
  | 1, _ => rfl
  | 2, _ => rfl

theorem r_set {L : Lay} {i b : Nat} {p : Option Addr} {c : Nat} (hi : i < 3) : (rCells L).set i (ptrV b) = rCells (L.at i b p c) := by
  match i, hi with
  | 0, _ => rfl
  | 1, _ => rfl
  | 2, _ => rfl

/-- write into the stored state -/
theorem s_put {W w w' : World} {L : Lay} {C : Cl} {G : List Own} {Φ : PW} [Stable Φ] {i k : Nat} (hi : i < 3) (hk : k < 4) {n : Node} (hr : n.rep = (C.nd i).rep) {v : Value} (hn : (nodeS (C.nd i) (L.lp i) (L.lc i)).set k v = nodeS n (L.lp i) (L.lc i))
    (cx : Ctx W w (clO L C ++ G) Φ) {g : Nat} (hg : L.sp = some ⟨g, 0, none⟩) (hw : w' = w.setCell ⟨g, i * 4 + k, none⟩ v) : Ctx W w' (clO L (ndC C i n) ++ G) Φ := by
  have hlen : (sCells L C).length = 12 := rfl
  have cx1 := cx.bufPuts 2 rfl hg (by rw [hlen]; omega) (o := i * 4 + k) (vs := [v]) (by rw [hlen]; simp; omega) hw
  have hset : setL (sCells L C) (i * 4 + k) [v] = sCells L (ndC C i n) := s_set hi hk hn
  show Ctx W w' ((heads L (ndC C i n) ++ repsO L (ndC C i n)) ++ G) Φ
  rw [reps_nd hi hr]
  have e : heads L (ndC C i n) = [.blk L.x (xCells L C) 34, .buf L.rp 3 L.rc (rCells L) 46 1, .buf L.sp 3 L.sc (setL (sCells L C) (i * 4 + k) [v]) 42 4, .buf L.tp C.sent.length L.tc L.mc 37 9] := by rw [hset]; rfl
  rw [e]
  exact cx1

theorem lay_at {W w : World} {L : Lay} {C : Cl} {G : List Own} {Φ : PW} (cx : Ctx W w (clO L C ++ G) Φ) : (∃ g, L.sp = some ⟨g, 0, none⟩) ∧ (∃ g, L.rp = some ⟨g, 0, none⟩) := by
  obtain ⟨g, hg, _⟩ := cx.bufCell 2 rfl (show 0 < 12 by decide)
  obtain ⟨g2, hg2, _⟩ := cx.bufCell 1 rfl (show 0 < 3 by decide)
  exact ⟨⟨g, hg⟩, g2, hg2⟩

set_option maxHeartbeats 2000000 in
theorem start_use {W w : World} {L : Lay} {C : Cl} {G : List Own} {Φ : PW} [Stable Φ] (cx : Ctx W w (clO L C ++ G) (CPhi Φ L C)) {i : Nat} (hi : i < 3) (hn : newB i (C.nd i).sterm (C.nd i).svote (C.nd i).slog = true) {K : Ending → World → Prop}
    (hK : ∀ L' w', L'.x = L.x → Ctx W w' (clO L' (startC C i) ++ G) (CPhi Φ L' (startC C i)) → K (.returned (.bool true)) w') : Calls Try.prog F.erratalaw08_cluster_start #[.pointer (some ⟨L.x, 0, none⟩), .int .i64 i] w K := by
  obtain ⟨⟨gs, hgs⟩, gp, hgp⟩ := lay_at cx
  have hll : (C.nd i).slog.length ≤ 4000 := by
    unfold newB at hn
    simp only [Bool.and_eq_true, decide_eq_true_eq] at hn
    omega
  refine (Berratalaw08_cluster_start_run L.x 0 i (J := fun u w' => K (.returned u) w') cx ?_).mono fun e w' ⟨v, he, hj⟩ => by rw [he]; exact hj
  refine fun w F cx => ⟨L.sp, 3, L.sc, cx.get 0 rfl rfl, by omega, ptrK_intro gs 0 hgs fun w F cx => ⟨cx.bufCan 2 rfl hgs (by show _ ≤ 12; rw [Int.toNat_natCast]; omega), fun w' hw' => ?_⟩⟩
  rw [Int.toNat_natCast, Nat.zero_add] at hw'
  obtain ⟨C1, hC1⟩ : ∃ C1, ndC C i { C.nd i with stop := 0 } = C1 := ⟨_, rfl⟩
  have hnd : C1.nd i = { C.nd i with stop := 0 } := by rw [← hC1]; exact put_self _ _ _
  have cx1 : Ctx W w' (clO L C1 ++ G ++ F) (CPhi Φ L C1) := by
    have h1 := s_put (n := { C.nd i with stop := 0 }) hi (show 3 < 4 by decide) rfl (by rfl) (cx.re (List.append_assoc _ _ _)) hgs hw'
    rw [hC1] at h1
    refine (h1.re (List.append_assoc _ _ _).symm).weak fun M w h => ⟨h.1, ?_⟩
    rw [← hC1]
    exact (ClS_nd (n := { C.nd i with stop := 0 }) hi rfl).2 h.2
  have hx1 : xCells L C1 = xCells L C := by rw [← hC1]; rfl
  have hsub : ∀ {w : World} {F : List Own} {A : List Own} {Ψ : PW} [Stable Ψ], Ctx W w (heads L C1 ++ A ++ F) Ψ → Ctx W w ([.blk L.x (xCells L C1) 34, .buf L.sp 3 L.sc (sCells L C1) 42 4] ++ F) (fun _ _ => True) := fun cx => (cx.weak fun _ _ _ => trivial).sub (List.Sublist.cons_cons _ (List.Sublist.cons _ (List.Sublist.cons_cons _ (List.Sublist.cons _ (List.sublist_append_right _ _)))))
  refine ⟨clO L C1 ++ G, CPhi Φ L C1, inferInstance, cx1, [.blk L.x (xCells L C1) 34, .buf L.sp 3 L.sc (sCells L C1) 42 4], fun _ _ => True, inferInstance, fun w F cx => hsub (A := repsO L C1 ++ G) (cx.re (by simp)), L.rp, 3, L.rc, fun w F cx => ⟨L.rp, 3, L.rc, cx.get 0 rfl rfl, rfl⟩, L.sp, 3, L.sc, fun w F cx => ⟨L.sp, 3, L.sc, cx.get 0 rfl rfl, rfl⟩, L.sp, 3, L.sc, fun w F cx => ⟨L.sp, 3, L.sc, cx.get 0 rfl rfl, rfl⟩, by omega, ptrK_intro gs 0 hgs ⟨by omega, ptrK_intro gs 0 hgs ⟨(C.nd i).sterm, (C.nd i).svote, fun w F cx => ⟨(C.nd i).sterm, (C.nd i).svote, ?_, rfl⟩, L.lp i, (C.nd i).slog.length, L.lc i, fun w F cx => ⟨L.lp i, (C.nd i).slog.length, L.lc i, ?_, rfl⟩, fun w F cx => ?_⟩⟩⟩
  · rw [Int.toNat_natCast, Nat.zero_add]
    refine cx.bufRow 1 rfl hgs (fun j hj => ?_)
    have : (nodeS (C1.nd i) (L.lp i) (L.lc i))[j]? = some [Value.int .i64 (C.nd i).sterm, Value.int .i64 (C.nd i).svote][j] := by
      rw [hnd]
      match j, hj with
      | 0, _ => rfl
      | 1, _ => rfl
    exact s_at hi (by simp at hj; omega) this
  · rw [Int.toNat_natCast, Nat.zero_add]
    refine cx.bufGet 1 rfl hgs (s_at hi (by decide) ?_)
    rw [hnd]
    rfl
  have hslog : (C1.nd i).slog = (C.nd i).slog := by rw [hnd]
  refine New_use cx (i : Int) (C.nd i).sterm (C.nd i).svote (C.nd i).slog (L.lp i) (L.lc i) (fun M w h => hslog ▸ h.2.log hi) (by omega) (fun h => by rw [hn] at h; cases h) fun _ b p c w cx => ?_
  rw [Int.toNat_natCast] at cx
  obtain ⟨r0, hr0⟩ : ∃ r0, newRep i (C.nd i).sterm (C.nd i).svote (C.nd i).slog = r0 := ⟨_, rfl⟩
  rw [hr0] at cx
  have cx2 : Ctx W w (heads L C1 ++ (repO b r0 p c ++ (repsO L C1 ++ G)) ++ F) (CPhi Φ L C1) := by
    refine cx.perm ?_
    have e1 : (repO b r0 p c ++ ((clO L C1 ++ G) ++ F)).Perm ((repO b r0 p c ++ heads L C1) ++ ((repsO L C1 ++ G) ++ F)) := List.Perm.of_eq (by simp)
    refine e1.trans ((List.Perm.append_right _ List.perm_append_comm).trans (List.Perm.of_eq (by simp)))
  refine ⟨some ⟨b, 0, none⟩, rfl, heads L C1 ++ (repO b r0 p c ++ (repsO L C1 ++ G)), CPhi Φ L C1, inferInstance, cx2, fun w F cx => hsub cx, by omega, ptrK_intro gp 0 hgp fun w F cx => ⟨cx.bufCan 1 rfl hgp (by show _ ≤ 3; rw [Int.toNat_natCast]; omega), fun w' hw' => ?_⟩⟩
  rw [Int.toNat_natCast, Nat.zero_add] at hw'
  have cx3 := cx.bufPuts 1 rfl hgp (show 0 < 3 by decide) (o := i) (vs := [ptrV b]) (by show _ ≤ 3; simp; omega) hw'
  have hset : setL (rCells L) i [ptrV b] = rCells (L.at i b p c) := r_set hi
  -- as a cluster again
  have hsc : startC C i = repC C1 i r0 := by
    rw [← hC1, repC_nd, ← hr0]
    rfl
  have cx4 : Ctx W w' (clO (L.at i b p c) (startC C i) ++ G ++ F) (CPhi Φ (L.at i b p c) (startC C i)) := by
    rw [hsc]
    have hh : heads (L.at i b p c) (repC C1 i r0) = [.blk L.x (xCells L C1) 34, .buf L.rp 3 L.rc (setL (rCells L) i [ptrV b]) 46 1, .buf L.sp 3 L.sc (sCells L C1) 42 4, .buf L.tp C1.sent.length L.tc L.mc 37 9] := by
      rw [hset]
      match i, hi with
      | 0, _ => rfl
      | 1, _ => rfl
      | 2, _ => rfl
    have h1 : Ctx W w' (heads (L.at i b p c) (repC C1 i r0) ++ (repO b r0 p c ++ (repsO L C1 ++ (G ++ F)))) (CPhi Φ L C1) := by
      rw [hh]
      exact cx3.re (by simp)
    have h2 : Ctx W w' (repI L C1 i ++ (heads (L.at i b p c) (repC C1 i r0) ++ (repO b r0 p c ++ (restO L C1 i ++ (G ++ F))))) (CPhi Φ L C1) := by
      refine h1.perm ?_
      have e1 : (repsO L C1 ++ (G ++ F)).Perm (repI L C1 i ++ (restO L C1 i ++ (G ++ F))) := (List.Perm.append_right _ (reps_perm L C1 hi)).trans (List.Perm.of_eq (List.append_assoc _ _ _))
      refine (List.Perm.append_left _ (List.Perm.append_left _ e1)).trans ?_
      have e2 : (heads (L.at i b p c) (repC C1 i r0) ++ (repO b r0 p c ++ (repI L C1 i ++ (restO L C1 i ++ (G ++ F))))).Perm (((heads (L.at i b p c) (repC C1 i r0) ++ repO b r0 p c) ++ repI L C1 i) ++ (restO L C1 i ++ (G ++ F))) := List.Perm.of_eq (by simp)
      refine e2.trans ((List.Perm.append_right _ List.perm_append_comm).trans (List.Perm.of_eq (by simp)))
    have h3 := h2.right
    have h4 : Ctx W w' (clO (L.at i b p c) (repC C1 i r0) ++ (G ++ F)) (CPhi Φ L C1) := by
      refine unfocus hi ?_
      rw [repI_at, rest_at hi]
      refine h3.perm ?_
      have e1 : (heads (L.at i b p c) (repC C1 i r0) ++ (repO b r0 p c ++ (restO L C1 i ++ (G ++ F)))).Perm ((heads (L.at i b p c) (repC C1 i r0) ++ repO b r0 p c) ++ (restO L C1 i ++ (G ++ F))) := List.Perm.of_eq (by simp)
      refine e1.trans ((List.Perm.append_right _ List.perm_append_comm).trans (List.Perm.of_eq (by simp)))
    exact (h4.re (List.append_assoc _ _ _).symm).weak fun M w h => ⟨h.1, (ClS_at hi).2 h.2⟩
  refine ⟨_, CPhi Φ (L.at i b p c) (startC C i), inferInstance, cx4, fun w F cx => ⟨L.rp, 3, L.rc, cx.get 0 rfl rfl, by omega, ptrK_intro gp 0 hgp fun w F cx => ⟨some ⟨b, 0, none⟩, ?_, fun w F cx => hK (L.at i b p c) w rfl cx.left⟩⟩⟩
  rw [Int.toNat_natCast, Nat.zero_add]
  refine cx.bufGet 1 rfl hgp ?_
  have := r_at (L := L.at i b p c) hi
  rw [this]
  simp only [Lay.at, put_self]

end Go.Proofs.Ytifgijoeckoojaa
