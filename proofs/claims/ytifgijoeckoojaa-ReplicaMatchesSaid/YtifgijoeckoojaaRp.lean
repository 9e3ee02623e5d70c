/-
  The cluster: arrive, walked.
-/
import Derived.Test.YtifgijoeckoojaaRo
set_option linter.unusedVariables false
set_option linter.unusedSimpArgs false
namespace Go.Proofs.Ytifgijoeckoojaa
open Go.Vc

abbrev MPhi (Φ : PW) (p : Option Addr) (l : List RecD) : PW := fun M w => Φ M w ∧ Sl M w p l
instance mphi_stable (Φ : PW) [Stable Φ] (p : Option Addr) (l : List RecD) : Stable (MPhi Φ p l) := instStableAnd Φ (fun M w => Sl M w p l)

theorem row_of {mc vs : List Value} {o k : Nat} (e : (mc.drop o).take k = vs) : ∀ i, (hi : i < vs.length) → mc[o + i]? = some vs[i] := by
  intro i hi
  subst e
  have hk : i < k := by simp at hi; omega
  rw [List.getElem_take, List.getElem_drop]
  have : o + i < mc.length := by simp at hi; omega
  exact List.getElem?_eq_getElem this

/-- x.done(i, x.r[i].Hear(m)) -/
theorem arrive_empty {C : Cl} {n : Int} {keep : Bool} (h : C.sent.length = 0) : arriveC C n keep = C := by
  unfold arriveC
  rw [List.eq_nil_of_length_eq_zero h]
  rfl

theorem arrive_some {C : Cl} {n : Int} {keep : Bool} {j : Nat} {m : MsgR} (hj : pickZ n C.sent.length = j) (hm : C.sent[j]? = some m) : arriveC C n keep = deliver (if keep then C else dropC C j) m := by
  unfold arriveC
  rw [hj, Int.toNat_natCast, hm]

set_option maxHeartbeats 2000000 in
theorem arrive_use {W w : World} {L : Lay} {C : Cl} {G : List Own} {Φ : PW} [Stable Φ] (cx : Ctx W w (clO L C ++ G) (CPhi Φ L C)) (h : C.Wf) (n : Int) (keep : Bool) {K : Ending → World → Prop}
    (hK : ∀ L' w', L'.x = L.x → Ctx W w' (clO L' (arriveC C n keep) ++ G) (CPhi Φ L' (arriveC C n keep)) → K (.returned (.bool true)) w') : Calls Try.prog F.erratalaw08_cluster_arrive #[.pointer (some ⟨L.x, 0, none⟩), .int .i64 n, .bool keep] w K := by
  have h300 := h.sent
  refine (Berratalaw08_cluster_arrive_run L.x 0 n keep (J := fun u w' => K (.returned u) w') cx ?_).mono fun e w' ⟨v, he, hj⟩ => by rw [he]; exact hj
  clear cx
  refine fun w F cx => ⟨L.tp, C.sent.length, L.tc, cx.get 0 rfl rfl, Br.intro (fun h0 => fun w F cx => ?_) (fun h0 => fun w F cx => ⟨L.tp, C.sent.length, L.tc, cx.get 0 rfl rfl, fun w F cx => ?_⟩)⟩
  · have h0 := of_decide_eq_true h0
    exact hK L w rfl (by rw [arrive_empty (by omega)]; exact cx.left)
  have h0 := of_decide_eq_false h0
  have hp := pickZ_lt (n := n) (show (0 : Int) < C.sent.length by omega)
  obtain ⟨j, hj⟩ : ∃ j : Nat, pickZ n C.sent.length = j := ⟨_, (Int.toNat_of_nonneg hp.1).symm⟩
  have hjl : j < C.sent.length := by omega
  obtain ⟨m, hm⟩ : ∃ m, C.sent[j]? = some m := ⟨_, List.getElem?_eq_getElem hjl⟩
  rw [arrive_some hj hm] at hK
  obtain ⟨mp, mcap, hme, hm1, hm2, hmo⟩ := sent_at cx.phi.2.1 hm
  obtain ⟨gt, hgt, _⟩ := cx.bufCell 3 rfl (show 0 < L.mc.length by
    have := cx.phi.2.1.1
    rw [show (Gv.ty MsgR).size = 9 from rfl] at this
    omega)
  refine (pick_q n C.sent.length (by unfold I64; omega)).gives.use cx fun w cx => ⟨_, rfl, clO L C ++ G, CPhi Φ L C, inferInstance, cx, fun w F cx => ⟨L.tp, C.sent.length, L.tc, cx.get 0 rfl rfl, hp, ptrK_intro gt 0 hgt ?_⟩⟩
  rw [hj, Int.toNat_natCast, Nat.zero_add]
  refine fun w F cx => ⟨m.kind, m.src, m.to, m.term, m.index, m.prev, m.commit, m.yes, mp, m.recs.length, mcap, cx.bufRow 3 rfl hgt (row_of hme), fun _ => ?_⟩
  obtain ⟨C1, hC1⟩ : ∃ C1, (if keep then C else dropC C j) = C1 := ⟨_, rfl⟩
  have hw1 : C1.Wf := by
    rw [← hC1]
    split
    · exact h
    · exact drop_wf h hjl
  rw [hC1] at hK
  refine exI_mk (fun R' Φ' => ∃ L2 : Lay, L2.x = L.x ∧ R' = clO L2 C1 ++ G ∧ Φ' = CPhi (MPhi Φ mp m.recs) L2 C1) ⟨Br.intro (fun hk => ?_) (fun hk => ?_), ?_⟩
  · have hC1 : C1 = dropC C j := by
      rw [← hC1, if_neg]
      simpa using hk
    have hsub : ∀ {w : World} {F A : List Own} {o1 : Own} {Ψ : PW} [Stable Ψ], Ctx W w (o1 :: .blk L.x (xCells L C) 34 :: A ++ F) Ψ → Ctx W w ([.blk L.x (xCells L C) 34] ++ F) (fun _ _ => True) := fun cx => (cx.weak fun _ _ _ => trivial).sub (List.Sublist.cons _ (List.Sublist.cons_cons _ (List.sublist_append_right _ _)))
    refine ⟨[.blk L.x (xCells L C) 34], fun _ _ => True, inferInstance, fun w F cx => (cx.weak fun _ _ _ => trivial).sub (List.Sublist.cons_cons _ (List.sublist_append_right _ _)), by unfold I64; omega, L.tp, C.sent.length, L.tc, fun w F cx => ⟨L.tp, C.sent.length, L.tc, cx.get 0 rfl rfl, rfl⟩, L.tp, C.sent.length, L.tc, fun w F cx => ⟨L.tp, C.sent.length, L.tc, cx.get 0 rfl rfl, rfl⟩, ?_, ?_, fun k => ⟨fun w F cx => hsub cx, fun w F cx => ?_⟩⟩
    · have := (cx.bufLen 3 rfl).2.1
      omega
    · have := (cx.bufLen 3 rfl).2.1
      omega
    obtain ⟨p1, cap1, w1, cs1, hrun1, hcap, cx1⟩ := rem_one (n := j) cx (by omega) h300
    have e1 : ((j : Int) + 1).toNat = j + 1 := by omega
    rw [e1]
    refine ⟨p1, j, cap1, w1, hrun1, .buf p1 (C.sent.take j).length cap1 cs1 37 9 :: R3 L C G, fun M w => remF L C Φ M w ∧ Elems M w cs1 (C.sent.take j), inferInstance, cx1, fun w F cx => hsub cx, fun w F cx => ?_⟩
    obtain ⟨p2, cap2, w2, cs2, hrun2, cx2⟩ := rem_two hjl h300 hcap cx (L.tc - (j + 1))
    refine ⟨p2, _, cap2, w2, hrun2, .buf p2 (remL C.sent j).length cap2 cs2 37 9 :: R3 L C G, fun M w => CPhi Φ L C M w ∧ Elems M w cs2 (remL C.sent j), inferInstance, cx2, fun w F cx => hsub cx, fun w F cx => ⟨cx.can 1 rfl (by simp), fun w' hw' => ?_⟩⟩
    refine ⟨clO (L.sentAt p2 cap2 cs2) (dropC C j) ++ G, CPhi (MPhi Φ mp m.recs) (L.sentAt p2 cap2 cs2) (dropC C j), inferInstance, ?_, _, CPhi (MPhi Φ mp m.recs) (L.sentAt p2 cap2 cs2) (dropC C j), inferInstance, fun w F cx => cx, L.sentAt p2 cap2 cs2, rfl, by rw [hC1], by rw [hC1]⟩
    have cxm : Ctx W w (.buf p2 (remL C.sent j).length cap2 cs2 37 9 :: R3 L C G ++ F) (fun M w => CPhi (MPhi Φ mp m.recs) L C M w ∧ Elems M w cs2 (remL C.sent j)) := cx.weak fun M w h => ⟨⟨⟨h.1.1, sent_sl h.1.2.1 hm hme⟩, h.1.2⟩, h.2⟩
    exact rem_three cxm hw'
  · have hC1 : C1 = C := by
      rw [← hC1, if_pos]
      simpa using hk
    exact ⟨clO L C ++ G, CPhi (MPhi Φ mp m.recs) L C, inferInstance, fun w F cx => cx.weak fun M w h => ⟨⟨h.1, sent_sl h.2.1 hm hme⟩, h.2⟩, L, rfl, by rw [hC1], by rw [hC1]⟩
  clear cx
  rintro R1 Φ1 _ ⟨L2, hx2, rfl, rfl⟩ w F cx
  have hq := pickZ_lt (n := m.to) (show (0 : Int) < 3 by decide)
  obtain ⟨i, hi⟩ : ∃ i : Nat, pickZ m.to 3 = i := ⟨_, (Int.toNat_of_nonneg hq.1).symm⟩
  have hi3 : i < 3 := by omega
  have hdl : deliver C1 m = callC C1 i (hearP (C1.nd i).rep m) := by unfold deliver; rw [hi, Int.toNat_natCast]
  rw [hdl] at hK
  obtain ⟨_, gp, hgp⟩ := lay_at (gl cx)
  refine (pick_q m.to 3 (by unfold I64; omega)).gives.use cx fun w cx => ⟨_, rfl, clO L2 C1 ++ G, CPhi (MPhi Φ mp m.recs) L2 C1, inferInstance, cx, [.blk L2.x (xCells L2 C1) 34, .buf L2.rp 3 L2.rc (rCells L2) 46 1], fun _ _ => True, inferInstance, ?_, L2.rp, 3, L2.rc, fun w F cx => ⟨L2.rp, 3, L2.rc, ?_, rfl⟩, hq, ptrK_intro gp 0 hgp ⟨some ⟨L2.b i, 0, none⟩, fun w F cx => ⟨some ⟨L2.b i, 0, none⟩, ?_, rfl⟩, ?_⟩⟩
  · exact fun w F cx => (cx.weak fun _ _ _ => trivial).sub (List.Sublist.cons_cons _ (List.Sublist.cons_cons _ (List.sublist_append_right _ _)))
  · rw [← hx2]; exact cx.get 0 rfl rfl
  · rw [hi, Int.toNat_natCast, Nat.zero_add]
    exact cx.bufGet 1 rfl hgp (r_at hi3)
  rw [hi]
  intro w F cx
  obtain ⟨hrw, hrid⟩ := hw1.rep i hi3
  have hh := hear_wf (m := m) hrw
  refine Hear_use (focus hi3 (gl cx)) hrw.ok m hmo mp mcap (fun M w h => h.1.2) hm1 hm2 (out_k hi3 fun p c q1 c1 q2 c2 w cx => ?_)
  refine ⟨_, _, _, _, q1, _, c1, q2, _, c2, rfl, clO (L2.at i (L2.b i) p c) (repC C1 i (hearP (C1.nd i).rep m).1) ++ G, CPhi (OPhi (MPhi Φ mp m.recs) q1 (hearP (C1.nd i).rep m).2.recs q2 (hearP (C1.nd i).rep m).2.send) (L2.at i (L2.b i) p c) (repC C1 i (hearP (C1.nd i).rep m).1), inferInstance, gr cx, fun w F cx => ?_, fun w F cx => ?_⟩
  · have hhd : heads (L2.at i (L2.b i) p c) (repC C1 i (hearP (C1.nd i).rep m).1) = heads L2 C1 := heads_at hi3
    have cx' : Ctx W w (heads L2 C1 ++ (repsO (L2.at i (L2.b i) p c) (repC C1 i (hearP (C1.nd i).rep m).1) ++ G ++ F)) (fun _ _ => True) := by
      rw [← hhd]
      exact (cx.weak fun _ _ _ => trivial).re (by simp)
    exact cx'.sub (List.Sublist.cons_cons _ (List.Sublist.cons_cons _ (List.Sublist.cons _ (List.Sublist.cons _ (List.sublist_append_right _ _)))))
  · have := after_use (L1 := L2.at i (L2.b i) p c) hw1 hi3 hh.1 hh.2 (hear_small _ m) (gl cx) c1 c2 (K := fun e w' => ∃ c145, e = Ending.returned (.bool c145) ∧ ∃ R146 Φ147, Stable Φ147 ∧ Ctx W w' (R146 ++ F) Φ147 ∧ ∀ w F, Ctx W w (R146 ++ F) Φ147 → K (.returned (.bool c145)) w) fun L' w' hx' cx' => ⟨true, rfl, clO L' (callC C1 i (hearP (C1.nd i).rep m)) ++ G, CPhi (MPhi Φ mp m.recs) L' (callC C1 i (hearP (C1.nd i).rep m)), inferInstance, gr cx', fun w F cx => hK L' w (by rw [hx']; exact hx2) (cx.left.weak fun M w h => ⟨h.1.1, h.2⟩)⟩
    rw [← hx2]
    exact this

end Go.Proofs.Ytifgijoeckoojaa
