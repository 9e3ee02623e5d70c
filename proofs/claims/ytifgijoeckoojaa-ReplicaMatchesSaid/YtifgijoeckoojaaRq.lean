/-
  The cluster: step.
-/
import Derived.Test.YtifgijoeckoojaaRp
set_option linter.unusedVariables false
set_option linter.unusedSimpArgs false
namespace Go.Proofs.Ytifgijoeckoojaa
open Go.Vc

def andZ (a m : Int) : Int := IntKind.i64.wrap (BitVec.ofInt 64 a &&& BitVec.ofInt 64 m).toNat
theorem and_run (a m : Int) (w : World) : Sem.run Try.prog (binOp BinOp.and 3 (.int .i64 a) (.int .i64 m)) w = .ok (.int .i64 (andZ a m)) w := rfl
theorem and_one (a : Int) : andZ a 1 = 0 ∨ andZ a 1 = 1 := by
  have h : (BitVec.ofInt 64 a &&& BitVec.ofInt 64 1).toNat = (BitVec.ofInt 64 a).toNat % 2 := by
    rw [BitVec.toNat_and]
    exact Nat.and_one_is_mod _
  unfold andZ
  rw [h]
  rcases Nat.mod_two_eq_zero_or_one (BitVec.ofInt 64 a).toNat with h | h
  · rw [h]; exact .inl (by decide)
  · rw [h]; exact .inr (by decide)

def tickC (C : Cl) (i : Nat) : Cl := callC C i (tickP (C.nd i).rep)
def propC (C : Cl) (i : Nat) (data : ByteArray) : Cl := callC C i ((proposeP (C.nd i).rep data).1, (proposeP (C.nd i).rep data).2.2.2)
def stopC (C : Cl) (i : Nat) (s : Int) : Cl := ndC C i { C.nd i with stop := s }
def loseC (C : Cl) (n : Int) : Cl := if 0 < C.sent.length then dropC C (pickZ n C.sent.length).toNat else C
def stepC (C : Cl) (x : OpR) : Cl :=
  let i := (pickZ x.who 3).toNat
  let k := andZ x.op 15
  if k = 8 then loseC C x.n
  else if k = 9 then arriveC C x.n true
  else if k = 10 ∨ k = 11 then tickC C i
  else if k = 12 ∨ k = 13 then propC C i x.data
  else if k = 14 then startC C i
  else if k = 15 then stopC C i (1 + andZ x.n 1)
  else arriveC C x.n false

theorem tick_c {C : Cl} (h : C.Wf) {i : Nat} (hi : i < 3) : (tickC C i).Wf :=
  have := tick_wf (h.rep i hi).1
  call_wf h hi this.1 this.2
theorem prop_c {C : Cl} (h : C.Wf) {i : Nat} (hi : i < 3) (data : ByteArray) : (propC C i data).Wf :=
  have := propose_wf (h.rep i hi).1 data
  call_wf h hi this.1 this.2
theorem stop_wf {C : Cl} (h : C.Wf) {i : Nat} (hi : i < 3) {s : Int} (hs : s = 1 ∨ s = 2) : (stopC C i s).Wf := by
  have hself : (stopC C i s).nd i = { C.nd i with stop := s } := put_self _ _ _
  have hne : ∀ j, j ≠ i → (stopC C i s).nd j = C.nd j := fun j hj => put_ne _ _ hj
  refine ⟨fun j hj => ?_, fun j hj => ?_, fun j hj => ?_, h.sent⟩
  all_goals
    by_cases hji : j = i
    · subst hji
      rw [hself]
      first
        | exact h.rep j hj
        | exact h.hard j hj
        | exact .inr hs
    · rw [hne j hji]
      first
        | exact h.rep j hj
        | exact h.hard j hj
        | exact h.stop j hj

theorem who_lt (n : Int) : (pickZ n 3).toNat < 3 := by
  have hp := pickZ_lt (n := n) (show (0 : Int) < 3 by decide)
  omega

theorem step_wf {C : Cl} (h : C.Wf) (x : OpR) : (stepC C x).Wf := by
  have hi := who_lt x.who
  have h1 := and_one x.n
  unfold stepC
  simp only
  split
  · unfold loseC
    split
    · rename_i h0
      have hp := pickZ_lt (n := x.n) (show (0 : Int) < C.sent.length by omega)
      exact drop_wf h (by omega)
    · exact h
  split
  · exact arrive_wf h _ _
  split
  · exact tick_c h hi
  split
  · exact prop_c h hi _
  split
  · exact start_wf h hi
  split
  · exact stop_wf h hi (by omega)
  · exact arrive_wf h _ _

theorem sub_xr {W w : World} {L : Lay} {C : Cl} {G F : List Own} {Ψ : PW} [Stable Ψ] (cx : Ctx W w (clO L C ++ G ++ F) Ψ) : Ctx W w ([.blk L.x (xCells L C) 34, .buf L.rp 3 L.rc (rCells L) 46 1] ++ F) (fun _ _ => True) := by
  have cx1 : Ctx W w (heads L C ++ (repsO L C ++ G ++ F)) (fun _ _ => True) := (cx.weak fun _ _ _ => trivial).re (by simp)
  exact cx1.sub (List.Sublist.cons_cons _ (List.Sublist.cons_cons _ (List.Sublist.cons _ (List.Sublist.cons _ (List.sublist_append_right _ _)))))

theorem sub_xr2 {W w : World} {L : Lay} {C : Cl} {G F : List Own} {i : Nat} {p : Option Addr} {c : Nat} {r : Rep} {Ψ : PW} [Stable Ψ] (hi : i < 3) (cx : Ctx W w (clO (L.at i (L.b i) p c) (repC C i r) ++ G ++ F) Ψ) : Ctx W w ([.blk L.x (xCells L C) 34, .buf L.rp 3 L.rc (rCells L) 46 1] ++ F) (fun _ _ => True) := by
  have hhd : heads (L.at i (L.b i) p c) (repC C i r) = heads L C := heads_at hi
  have cx1 : Ctx W w (heads (L.at i (L.b i) p c) (repC C i r) ++ (repsO (L.at i (L.b i) p c) (repC C i r) ++ G ++ F)) (fun _ _ => True) := (cx.weak fun _ _ _ => trivial).re (by simp)
  rw [hhd] at cx1
  exact cx1.sub (List.Sublist.cons_cons _ (List.Sublist.cons_cons _ (List.Sublist.cons _ (List.Sublist.cons _ (List.sublist_append_right _ _)))))

theorem prop_fits {r : Rep} (h : r.Wf) (data : ByteArray) : Fits r (proposeP r data).1 (proposeP r data).2.2.2 := (propose_wf h data).2

set_option maxHeartbeats 4000000 in
theorem step_use {W w : World} {L : Lay} {C : Cl} {G : List Own} {Φ : PW} [Stable Φ] (cx : Ctx W w (clO L C ++ G) (CPhi Φ L C)) (h : C.Wf) (x : OpR) {K : Ending → World → Prop}
    (hK : ∀ L' w', L'.x = L.x → Ctx W w' (clO L' (stepC C x) ++ G) (CPhi Φ L' (stepC C x)) → K (.returned (.bool true)) w') : Calls Try.prog F.erratalaw08_cluster_step #[.pointer (some ⟨L.x, 0, none⟩), .agg #[.int .i64 x.op, .int .i64 x.who, .int .i64 x.n, .string x.data]] w K := by
  obtain ⟨op, who, n, data⟩ := x
  have h300 := h.sent
  refine (Berratalaw08_cluster_step_run L.x 0 op who n data (J := fun u w' => K (.returned u) w') cx ?_).mono fun e w' ⟨v, he, hj⟩ => by rw [he]; exact hj
  clear cx
  intro _ w H0 cx
  have hq := pickZ_lt (n := who) (show (0 : Int) < 3 by decide)
  obtain ⟨i, hi⟩ : ∃ i : Nat, pickZ who 3 = i := ⟨_, (Int.toNat_of_nonneg hq.1).symm⟩
  have hi3 : i < 3 := by omega
  obtain ⟨k, hk⟩ : ∃ k, andZ op 15 = k := ⟨_, rfl⟩
  obtain ⟨⟨gs, hgs⟩, gp, hgp⟩ := lay_at (gl cx)
  obtain ⟨hrw, hrid⟩ := h.rep i hi3
  refine (pick_q who 3 (by unfold I64; omega)).gives.use cx fun w cx => ⟨_, rfl, clO L C ++ G, CPhi Φ L C, inferInstance, cx, _, and_run op 15, ?_⟩
  rw [hi, hk]
  have hS : stepC C ⟨op, who, n, data⟩ = if k = 8 then loseC C n else if k = 9 then arriveC C n true else if k = 10 ∨ k = 11 then tickC C i else if k = 12 ∨ k = 13 then propC C i data else if k = 14 then startC C i else if k = 15 then stopC C i (1 + andZ n 1) else arriveC C n false := by
    unfold stepC
    simp only [hi, hk, Int.toNat_natCast]
  rw [hS] at hK
  have hreadP : ∀ {w : World} {A : List Own} {Ψ : PW}, Ctx W w ([.blk L.x (xCells L C) 34, .buf L.rp 3 L.rc (rCells L) 46 1] ++ A) Ψ → w.cell? ⟨gp, 0 + (i : Int).toNat, none⟩ = some (.pointer (some ⟨L.b i, 0, none⟩)) := fun cx => by
    rw [Int.toNat_natCast, Nat.zero_add]
    exact cx.bufGet 1 rfl hgp (r_at hi3)
  refine Br.intro (fun h8 => ?_) (fun h8 => Br.intro (fun h9 => ?_) (fun h9 => Br.intro (fun h10 => Br.intro (fun _ => ?_) (fun h => by rw [h10] at h; cases h)) (fun h10 => Br.intro (fun h11 => ?_) (fun h11 => Br.intro (fun h12 => Br.intro (fun _ => ?_) (fun h => by rw [h12] at h; cases h)) (fun h12 => Br.intro (fun h13 => ?_) (fun h13 => Br.intro (fun h14 => ?_) (fun h14 => Br.intro (fun h15 => ?_) (fun h15 => ?_))))))))
  · -- lost
    rw [if_pos (of_decide_eq_true h8)] at hK
    unfold loseC at hK
    refine fun w F cx => ⟨L.tp, C.sent.length, L.tc, cx.get 0 rfl rfl, Br.intro (fun h0 => fun w F cx => ?_) (fun h0 => fun w F cx => ?_)⟩
    · have h0 : 0 < C.sent.length := by have := of_decide_eq_true h0; omega
      rw [if_pos h0] at hK
      have hp := pickZ_lt (n := n) (show (0 : Int) < C.sent.length by omega)
      obtain ⟨j, hj⟩ : ∃ j : Nat, pickZ n C.sent.length = j := ⟨_, (Int.toNat_of_nonneg hp.1).symm⟩
      have hjl : j < C.sent.length := by omega
      rw [hj, Int.toNat_natCast] at hK
      have hcap := (cx.bufLen 3 rfl).2.1
      have hsub : ∀ {w : World} {F A : List Own} {o1 : Own} {Ψ : PW} [Stable Ψ], Ctx W w (o1 :: .blk L.x (xCells L C) 34 :: A ++ F) Ψ → Ctx W w ([.blk L.x (xCells L C) 34] ++ F) (fun _ _ => True) := fun cx => (cx.weak fun _ _ _ => trivial).sub (List.Sublist.cons _ (List.Sublist.cons_cons _ (List.sublist_append_right _ _)))
      refine ⟨L.tp, C.sent.length, L.tc, cx.get 0 rfl rfl, j, fun w' hw => by rw [← hj]; exact (pick_q n C.sent.length (by unfold I64; omega)).atN hw, [.blk L.x (xCells L C) 34], fun _ _ => True, inferInstance, fun w F cx => (cx.weak fun _ _ _ => trivial).sub (List.Sublist.cons_cons _ (List.sublist_append_right _ _)), by unfold I64; omega, L.tp, C.sent.length, L.tc, fun w F cx => ⟨L.tp, C.sent.length, L.tc, cx.get 0 rfl rfl, rfl⟩, L.tp, C.sent.length, L.tc, fun w F cx => ⟨L.tp, C.sent.length, L.tc, cx.get 0 rfl rfl, rfl⟩, by omega, by omega, fun k0 => ⟨fun w F cx => hsub cx, fun w F cx => ?_⟩⟩
      obtain ⟨p1, cap1, w1, cs1, hrun1, hcap, cx1⟩ := rem_one (n := j) cx (by omega) h300
      have e1 : ((j : Int) + 1).toNat = j + 1 := by omega
      rw [e1, Int.toNat_natCast]
      refine ⟨p1, j, cap1, w1, hrun1, .buf p1 (C.sent.take j).length cap1 cs1 37 9 :: R3 L C G, fun M w => remF L C Φ M w ∧ Elems M w cs1 (C.sent.take j), inferInstance, cx1, fun w F cx => hsub cx, fun w F cx => ?_⟩
      obtain ⟨p2, cap2, w2, cs2, hrun2, cx2⟩ := rem_two hjl h300 hcap cx (L.tc - (j + 1))
      refine ⟨p2, _, cap2, w2, hrun2, .buf p2 (remL C.sent j).length cap2 cs2 37 9 :: R3 L C G, fun M w => CPhi Φ L C M w ∧ Elems M w cs2 (remL C.sent j), inferInstance, cx2, fun w F cx => hsub cx, fun w F cx => ⟨cx.can 1 rfl (by simp), fun w' hw' => ?_⟩⟩
      exact ⟨clO (L.sentAt p2 cap2 cs2) (dropC C j) ++ G, CPhi Φ (L.sentAt p2 cap2 cs2) (dropC C j), inferInstance, rem_three cx hw', fun w F cx => hK (L.sentAt p2 cap2 cs2) w rfl cx.left⟩
    · rw [if_neg (by have := of_decide_eq_false h0; omega)] at hK
      exact hK L w rfl cx.left
  all_goals rw [if_neg (of_decide_eq_false h8)] at hK
  · rw [if_pos (of_decide_eq_true h9)] at hK
    exact fun w F cx => arrive_use (gl cx) h n true fun L' w' hx cx => ⟨true, rfl, clO L' (arriveC C n true) ++ G, CPhi Φ L' (arriveC C n true), inferInstance, gr cx, fun w F cx => hK L' w hx cx.left⟩
  all_goals rw [if_neg (of_decide_eq_false h9)] at hK
  iterate 2
    · rw [if_pos (by first | exact .inl (of_decide_eq_true h10) | exact .inr (of_decide_eq_true h11))] at hK
      have hh := tick_wf hrw
      refine fun w F cx => ⟨L.rp, 3, L.rc, cx.get 0 rfl rfl, by omega, ptrK_intro gp 0 hgp fun w F cx => ⟨some ⟨L.b i, 0, none⟩, hreadP (sub_xr cx), fun w F cx => Tick_use (focus hi3 (gl cx)) hrw.ok (out_k hi3 fun p c q1 c1 q2 c2 w cx => ?_)⟩⟩
      refine ⟨_, _, _, _, q1, _, c1, q2, _, c2, rfl, clO (L.at i (L.b i) p c) (repC C i (tickP (C.nd i).rep).1) ++ G, CPhi (OPhi Φ q1 (tickP (C.nd i).rep).2.recs q2 (tickP (C.nd i).rep).2.send) (L.at i (L.b i) p c) (repC C i (tickP (C.nd i).rep).1), inferInstance, gr cx, fun w F cx => ?_⟩
      exact after_use (L1 := L.at i (L.b i) p c) h hi3 hh.1 hh.2 (tick_small _) (gl cx) c1 c2 fun L' w' hx' cx' => ⟨true, rfl, clO L' (tickC C i) ++ G, CPhi Φ L' (tickC C i), inferInstance, gr cx', fun w F cx => hK L' w hx' cx.left⟩
  all_goals rw [if_neg (by intro h; rcases h with h | h; exact of_decide_eq_false h10 h; exact of_decide_eq_false h11 h)] at hK
  iterate 2
    · rw [if_pos (by first | exact .inl (of_decide_eq_true h12) | exact .inr (of_decide_eq_true h13))] at hK
      have hh := propose_wf hrw data
      have hfin : ∀ {w : World} {H : List Own} {a : Own} {p q1 q2 : Option Addr} {c c1 c2 : Nat}, Ctx W w (a :: (clO (L.at i (L.b i) p c) (repC C i (proposeP (C.nd i).rep data).1) ++ G) ++ H) (CPhi (OPhi Φ q1 (proposeP (C.nd i).rep data).2.2.2.recs q2 (proposeP (C.nd i).rep data).2.2.2.send) (L.at i (L.b i) p c) (repC C i (proposeP (C.nd i).rep data).1)) → Calls Try.prog F.erratalaw08_cluster_done #[.pointer (some ⟨L.x, 0, none⟩), .int .i64 i, outV (proposeP (C.nd i).rep data).2.2.2 q1 c1 q2 c2] w fun e w' => ∃ c, e = Ending.returned (.bool c) ∧ ∃ R' Φ', Stable Φ' ∧ Ctx W w' (R' ++ H) Φ' ∧ ∀ w F, Ctx W w (R' ++ F) Φ' → K (.returned (.bool c)) w := fun {w H a p q1 q2 c c1 c2} cx => by
        have cx1 : Ctx W w (clO (L.at i (L.b i) p c) (repC C i (proposeP (C.nd i).rep data).1) ++ G ++ H) (CPhi (OPhi Φ q1 (proposeP (C.nd i).rep data).2.2.2.recs q2 (proposeP (C.nd i).rep data).2.2.2.send) (L.at i (L.b i) p c) (repC C i (proposeP (C.nd i).rep data).1)) := cx.drop1
        exact after_use (x := ((proposeP (C.nd i).rep data).1, (proposeP (C.nd i).rep data).2.2.2)) (L1 := (L.at i (L.b i) p c)) h hi3 hh.1 hh.2 (propose_small hrw.ok.len data) (gl cx1) c1 c2 fun L' w' hx' cx' => ⟨true, rfl, clO L' (propC C i data) ++ G, CPhi Φ L' (propC C i data), inferInstance, gr cx', fun w F cx => hK L' w hx' cx.left⟩
      refine ⟨[.blk L.x (xCells L C) 34, .buf L.rp 3 L.rc (rCells L) 46 1], fun _ _ => True, inferInstance, fun w F cx => sub_xr cx, L.rp, 3, L.rc, fun w F cx => ⟨L.rp, 3, L.rc, cx.get 0 rfl rfl, rfl⟩, by omega, ptrK_intro gp 0 hgp ⟨some ⟨L.b i, 0, none⟩, fun w F cx => ⟨some ⟨L.b i, 0, none⟩, hreadP cx, rfl⟩, ⟨fun w F cx => Propose_use (focus hi3 (gl cx)) hrw.ok (fun hr => hrw.one (by rw [hr]; decide)) data (out_k (x := ((proposeP (C.nd i).rep data).1, (proposeP (C.nd i).rep data).2.2.2)) hi3 fun p c q1 c1 q2 c2 w cx => ?_), fun k0 => ⟨fun w F cx => sub_xr cx.drop1, fun w F cx => Propose_use (focus hi3 (gl (sink cx))) hrw.ok (fun hr => hrw.one (by rw [hr]; decide)) data (out_k (x := ((proposeP (C.nd i).rep data).1, (proposeP (C.nd i).rep data).2.2.2)) hi3 fun p c q1 c1 q2 c2 w cx => ?_), trivial⟩, trivial⟩⟩⟩
      · exact ⟨_, _, _, _, _, _, q1, _, c1, q2, _, c2, rfl, clO (L.at i (L.b i) p c) (repC C i (proposeP (C.nd i).rep data).1) ++ G, (CPhi (OPhi Φ q1 (proposeP (C.nd i).rep data).2.2.2.recs q2 (proposeP (C.nd i).rep data).2.2.2.send) (L.at i (L.b i) p c) (repC C i (proposeP (C.nd i).rep data).1)), inferInstance, gr cx, fun w F cx => sub_xr2 hi3 cx, fun k0 => ⟨fun w F cx => sub_xr2 hi3 cx.drop1, fun w F cx => ⟨cx.can 0 rfl (by simp), fun w' hw' => ⟨.blk k0 [.bool (proposeP (C.nd i).rep data).2.2.2.save, .int .i64 (proposeP (C.nd i).rep data).2.2.2.term, .int .i64 (proposeP (C.nd i).rep data).2.2.2.vote, .int .i64 (proposeP (C.nd i).rep data).2.2.2.src, .slice q1 (proposeP (C.nd i).rep data).2.2.2.recs.length c1, .slice q2 (proposeP (C.nd i).rep data).2.2.2.send.length c2] 45 :: (clO (L.at i (L.b i) p c) (repC C i (proposeP (C.nd i).rep data).1) ++ G), (CPhi (OPhi Φ q1 (proposeP (C.nd i).rep data).2.2.2.recs q2 (proposeP (C.nd i).rep data).2.2.2.send) (L.at i (L.b i) p c) (repC C i (proposeP (C.nd i).rep data).1)), inferInstance, cx.puts 0 hw' rfl, fun w F cx => sub_xr2 hi3 cx.drop1, fun w F cx => ⟨_, _, _, _, q1, _, c1, q2, _, c2, cx.row0 0 rfl, fun w F cx => hfin cx⟩⟩⟩, trivial⟩, trivial⟩
      · exact ⟨_, _, _, _, _, _, q1, _, c1, q2, _, c2, rfl, .blk k0 [.bool false, .int .i64 0, .int .i64 0, .int .i64 0, .slice none 0 0, .slice none 0 0] 45 :: (clO (L.at i (L.b i) p c) (repC C i (proposeP (C.nd i).rep data).1) ++ G), (CPhi (OPhi Φ q1 (proposeP (C.nd i).rep data).2.2.2.recs q2 (proposeP (C.nd i).rep data).2.2.2.send) (L.at i (L.b i) p c) (repC C i (proposeP (C.nd i).rep data).1)), inferInstance, lift (gr cx), fun w F cx => sub_xr2 hi3 cx.drop1, fun w F cx => ⟨cx.can 0 rfl (by simp), fun w' hw' => ⟨.blk k0 [.bool (proposeP (C.nd i).rep data).2.2.2.save, .int .i64 (proposeP (C.nd i).rep data).2.2.2.term, .int .i64 (proposeP (C.nd i).rep data).2.2.2.vote, .int .i64 (proposeP (C.nd i).rep data).2.2.2.src, .slice q1 (proposeP (C.nd i).rep data).2.2.2.recs.length c1, .slice q2 (proposeP (C.nd i).rep data).2.2.2.send.length c2] 45 :: (clO (L.at i (L.b i) p c) (repC C i (proposeP (C.nd i).rep data).1) ++ G), (CPhi (OPhi Φ q1 (proposeP (C.nd i).rep data).2.2.2.recs q2 (proposeP (C.nd i).rep data).2.2.2.send) (L.at i (L.b i) p c) (repC C i (proposeP (C.nd i).rep data).1)), inferInstance, cx.puts 0 hw' rfl, fun w F cx => sub_xr2 hi3 cx.drop1, fun w F cx => ⟨_, _, _, _, q1, _, c1, q2, _, c2, cx.row0 0 rfl, fun w F cx => hfin cx⟩⟩⟩, trivial⟩
  all_goals rw [if_neg (by intro h; rcases h with h | h; exact of_decide_eq_false h12 h; exact of_decide_eq_false h13 h)] at hK
  · rw [if_pos (of_decide_eq_true h14)] at hK
    obtain ⟨a1, a2, a3⟩ := h.hard i hi3
    exact fun w F cx => start_use (gl cx) hi3 (by rw [a1, a2, a3]; exact new_yes (by omega) hrw.ok) fun L' w' hx cx => ⟨true, rfl, clO L' (startC C i) ++ G, CPhi Φ L' (startC C i), inferInstance, gr cx, fun w F cx => hK L' w hx cx.left⟩
  all_goals rw [if_neg (of_decide_eq_false h14)] at hK
  · rw [if_pos (of_decide_eq_true h15)] at hK
    have h1 := and_one n
    refine ⟨_, and_run n 1, fun w F cx => ⟨L.sp, 3, L.sc, cx.get 0 rfl rfl, by unfold I64; omega, by omega, ptrK_intro gs 0 hgs fun w F cx => ⟨cx.bufCan 2 rfl hgs (by show _ ≤ 12; rw [Int.toNat_natCast]; omega), fun w' hw' => ?_⟩⟩⟩
    rw [Int.toNat_natCast, Nat.zero_add] at hw'
    have h2 := s_put (n := { C.nd i with stop := 1 + andZ n 1 }) hi3 (show 3 < 4 by decide) rfl (by rfl) (gl cx) hgs hw'
    exact ⟨clO L (stopC C i (1 + andZ n 1)) ++ G, CPhi Φ L (stopC C i (1 + andZ n 1)), inferInstance, gr (h2.weak fun M w h => ⟨h.1, (ClS_nd (n := { C.nd i with stop := 1 + andZ n 1 }) hi3 rfl).2 h.2⟩), fun w F cx => hK L w rfl cx.left⟩
  · rw [if_neg (of_decide_eq_false h15)] at hK
    exact fun w F cx => arrive_use (gl cx) h n false fun L' w' hx cx => ⟨true, rfl, clO L' (arriveC C n false) ++ G, CPhi Φ L' (arriveC C n false), inferInstance, gr cx, fun w F cx => hK L' w hx cx.left⟩

end Go.Proofs.Ytifgijoeckoojaa
