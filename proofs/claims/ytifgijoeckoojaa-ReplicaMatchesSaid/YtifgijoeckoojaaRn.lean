/-
  The cluster: a call of a replica and what is done after it; in plain Lean, and walked.
-/
import Derived.Test.YtifgijoeckoojaaRm
set_option linter.unusedVariables false
set_option linter.unusedSimpArgs false
namespace Go.Proofs.Ytifgijoeckoojaa
open Go.Vc

/-! ### results are short -/
structure Small (o : OutR) : Prop where
  recs : o.recs.length ≤ 4000
  src : o.src ≤ 4001
  send : o.send.length ≤ 2

theorem small0 : Small out0 := ⟨by simp, by simp, by simp⟩
theorem smallS {l : List MsgR} (h : l.length ≤ 2) : Small (outS l) := ⟨by simp, by simp, h⟩
theorem all_len (r : Rep) : (allOf r).length ≤ 2 := by unfold allOf; rw [List.length_map, others_len]; exact Nat.le_refl _

theorem tick_small (r : Rep) : Small (tickP r).2 := by
  unfold tickP
  split
  · exact smallS (all_len r)
  split
  · exact small0
  · exact ⟨by simp, by simp, by simp [others_len]⟩

theorem vote_small (r : Rep) (m : MsgR) : Small (voteP r m).2 := by
  unfold voteP
  split
  · exact smallS (by simp)
  · exact smallS (by simp)

theorem voted_small (r : Rep) (m : MsgR) : Small (votedP r m).2 := by
  unfold votedP
  split
  · exact small0
  · simp only
    split
    · exact small0
    · exact smallS (all_len _)

theorem append_small (r : Rep) {m : MsgR} (h1 : m.recs.length ≤ 8) (h2 : m.index + m.recs.length ≤ 4000) (h3 : 0 ≤ m.index) : Small (appendP r m).2 := by
  unfold appendP
  split
  · exact smallS (by simp)
  split
  · exact small0
  simp only
  split
  · exact smallS (by simp)
  split
  · rename_i hk
    split
    · exact small0
    · exact ⟨by simp; omega, by simp only; omega, by simp⟩
  · exact smallS (by simp)

theorem appended_small (r : Rep) (m : MsgR) : Small (appendedP r m).2 := by
  unfold appendedP
  split
  · exact small0
  simp only
  split
  · exact smallS (by simp)
  split
  · exact smallS (by simp)
  · exact small0

theorem fin_small {r : Rep} {x : Rep × OutR} (h : Small x.2) : Small (finO r x).2 := by
  unfold finO
  split
  · exact h
  · exact ⟨h.recs, h.src, h.send⟩

theorem hear_small (r : Rep) (m : MsgR) : Small (hearP r m).2 := by
  cases hy : rightP r.id m with
  | false => rw [hear_no hy]; exact small0
  | true =>
    have hm := right_iff.1 hy
    rw [hear_yes hy]
    refine fin_small ?_
    unfold hearX
    split
    · exact vote_small _ m
    split
    · exact voted_small _ m
    split
    · exact append_small _ hm.len hm.fits hm.index.1
    · exact appended_small _ m

theorem propose_small {r : Rep} (h : r.log.length ≤ 4000) (data : ByteArray) : Small (proposeP r data).2.2.2 := by
  unfold proposeP
  split
  · exact small0
  split
  · exact small0
  split
  · exact small0
  · exact ⟨by simp, by simp only; omega, all_len _⟩

/-! ### a cluster that may be found -/
structure Cl.Wf (C : Cl) : Prop where
  rep : ∀ i, i < 3 → (C.nd i).rep.Wf ∧ (C.nd i).rep.id = i
  hard : ∀ i, i < 3 → (C.nd i).sterm = (C.nd i).rep.term ∧ (C.nd i).svote = (C.nd i).rep.vote ∧ (C.nd i).slog = (C.nd i).rep.log
  stop : ∀ i, i < 3 → (C.nd i).stop = 0 ∨ (C.nd i).stop = 1 ∨ (C.nd i).stop = 2
  sent : C.sent.length ≤ 300

/-- node i is another replica, and that is stored -/
def hardN (n : Node) (r : Rep) : Node := ⟨r, r.term, r.vote, r.log, n.stop⟩
def hardC (C : Cl) (i : Nat) (r : Rep) : Cl := { C with nd := put C.nd i (hardN (C.nd i) r) }
/-- a call of node i has given x -/
def callC (C : Cl) (i : Nat) (x : Rep × OutR) : Cl := doneC (repC C i x.1) i x.2

theorem keep_fits {n : Node} {r : Rep} {o : OutR} (h1 : n.sterm = n.rep.term) (h2 : n.svote = n.rep.vote) (h3 : n.slog = n.rep.log) (hf : Fits n.rep r o) : keepN (saveN { n with rep := r } o) o = hardN n r := by
  have hs : saveN { n with rep := r } o = ⟨r, r.term, r.vote, n.slog, n.stop⟩ := by
    unfold saveN
    cases hsv : o.save with
    | true => obtain ⟨a, b⟩ := hf.save hsv; rw [if_pos rfl, a, b]
    | false => obtain ⟨a, b⟩ := hf.keep hsv; rw [if_neg (by simp), h1, h2, ← a, ← b]
  rw [hs]
  unfold keepN hardN
  by_cases hp : 0 < o.src
  · rw [if_pos hp, hf.log hp, ← h3]
  · rw [if_neg hp, hf.same hp, ← h3]

theorem start_rep (C : Cl) (i : Nat) (r : Rep) : startC (repC C i r) i = startC C i := by
  unfold startC repC
  simp only [put_put, put_self]
  rfl

theorem call_cases {C : Cl} (h : C.Wf) {i : Nat} (hi : i < 3) {x : Rep × OutR} (hf : Fits (C.nd i).rep x.1 x.2) :
    callC C i x = if (C.nd i).stop = 1 then startC C i else if (C.nd i).stop = 2 then startC (hardC C i x.1) i else { hardC C i x.1 with sent := C.sent ++ x.2.send.take (300 - C.sent.length) } := by
  obtain ⟨h1, h2, h3⟩ := h.hard i hi
  have hn : (repC C i x.1).nd i = { C.nd i with rep := x.1 } := put_self _ _ _
  have hk : put (repC C i x.1).nd i (keepN (saveN ((repC C i x.1).nd i) x.2) x.2) = (hardC C i x.1).nd := by
    rw [hn, keep_fits h1 h2 h3 hf]
    unfold repC hardC
    simp only [put_put]
  unfold callC doneC
  simp only [hk]
  rw [start_rep, hn]
  rfl

theorem start_wf {C : Cl} (h : C.Wf) {i : Nat} (hi : i < 3) : (startC C i).Wf := by
  obtain ⟨h1, h2, h3⟩ := h.hard i hi
  obtain ⟨hw, hid⟩ := h.rep i hi
  have hself : (startC C i).nd i = startN i (C.nd i) := put_self _ _ _
  have hne : ∀ j, j ≠ i → (startC C i).nd j = C.nd j := fun j hj => put_ne _ _ hj
  refine ⟨fun j hj => ?_, fun j hj => ?_, fun j hj => ?_, h.sent⟩
  all_goals
    by_cases hji : j = i
    · subst hji
      rw [hself]
      unfold startN
      first
        | exact ⟨new_wf (by omega) (by rw [h1]; exact hw.ok.term0) (by rw [h1]; exact hw.ok.termM) (by rw [h2]; exact hw.ok.vote0) (by rw [h2]; exact hw.ok.voteM) (by rw [h1, h3]; exact hw.ok.log) (by rw [h3]; exact hw.ok.len), rfl⟩
        | exact ⟨rfl, rfl, rfl⟩
        | exact .inl rfl
    · rw [hne j hji]
      first
        | exact h.rep j hj
        | exact h.hard j hj
        | exact h.stop j hj

theorem hard_wf {C : Cl} (h : C.Wf) {i : Nat} (hi : i < 3) {r : Rep} (hr : r.Wf) (hid : r.id = i) : (hardC C i r).Wf := by
  have hself : (hardC C i r).nd i = hardN (C.nd i) r := put_self _ _ _
  have hne : ∀ j, j ≠ i → (hardC C i r).nd j = C.nd j := fun j hj => put_ne _ _ hj
  refine ⟨fun j hj => ?_, fun j hj => ?_, fun j hj => ?_, h.sent⟩
  all_goals
    by_cases hji : j = i
    · subst hji
      rw [hself]
      unfold hardN
      first
        | exact ⟨hr, hid⟩
        | exact ⟨rfl, rfl, rfl⟩
        | exact h.stop j hj
    · rw [hne j hji]
      first
        | exact h.rep j hj
        | exact h.hard j hj
        | exact h.stop j hj

theorem call_wf {C : Cl} (h : C.Wf) {i : Nat} (hi : i < 3) {x : Rep × OutR} (hx : x.1.Wf) (hf : Fits (C.nd i).rep x.1 x.2) : (callC C i x).Wf := by
  rw [call_cases h hi hf]
  have hh : (hardC C i x.1).Wf := hard_wf h hi hx (by rw [hf.id]; exact (h.rep i hi).2)
  split
  · exact start_wf h hi
  split
  · exact start_wf hh hi
  · refine ⟨hh.rep, hh.hard, hh.stop, ?_⟩
    have := h.sent
    simp only [List.length_append, List.length_take]
    omega

/-! ### walked -/
theorem after_use {W w : World} {L1 : Lay} {C : Cl} {G : List Own} {Φ : PW} [Stable Φ] {i : Nat} {x : Rep × OutR} {q1 q2 : Option Addr} (h : C.Wf) (hi : i < 3) (hx : x.1.Wf) (hf : Fits (C.nd i).rep x.1 x.2) (hs : Small x.2)
    (cx : Ctx W w (clO L1 (repC C i x.1) ++ G) (CPhi (OPhi Φ q1 x.2.recs q2 x.2.send) L1 (repC C i x.1))) (c1 c2 : Nat) {K : Ending → World → Prop}
    (hK : ∀ L' w', L'.x = L1.x → Ctx W w' (clO L' (callC C i x) ++ G) (CPhi Φ L' (callC C i x)) → K (.returned (.bool true)) w') :
    Calls Try.prog F.erratalaw08_cluster_done #[.pointer (some ⟨L1.x, 0, none⟩), .int .i64 i, outV x.2 q1 c1 q2 c2] w K := by
  obtain ⟨h1, h2, h3⟩ := h.hard i hi
  obtain ⟨hw, hid⟩ := h.rep i hi
  have hn : (repC C i x.1).nd i = { C.nd i with rep := x.1 } := put_self _ _ _
  have hs1 := hs.recs
  have hs2 := hs.src
  have hs3 := hs.send
  refine done_use cx hi x.2 q1 c1 q2 c2 (fun M w h => h.2.1) (fun M w h => h.2.2) (by omega) (by omega) h.sent (by omega) (by rw [hn]; show (C.nd i).slog.length ≤ 4000; rw [h3]; exact hw.ok.len) (fun _ => ?_) (fun _ => ?_) fun L' w' hx' cx' => hK L' w' hx' (cx'.weak fun M w h => ⟨h.1.1, h.2⟩)
  · rw [hn]
    show newB i (C.nd i).sterm (C.nd i).svote (C.nd i).slog = true
    rw [h1, h2, h3]
    exact new_yes (by omega) hw.ok
  · rw [hn, keep_fits h1 h2 h3 hf]
    exact new_yes (by omega) hx.ok

theorem out_k {W : World} {L : Lay} {C : Cl} {G : List Own} {Φ : PW} [Stable Φ] {i : Nat} (hi : i < 3) {x : Rep × OutR} {J : Value → World → Prop}
    (hJ : ∀ p c q1 c1 q2 c2 w', Ctx W w' (clO (L.at i (L.b i) p c) (repC C i x.1) ++ G) (CPhi (OPhi Φ q1 x.2.recs q2 x.2.send) (L.at i (L.b i) p c) (repC C i x.1)) → J (outV x.2 q1 c1 q2 c2) w') :
    OutK W (heads L C ++ restO L C i ++ G) (CPhi Φ L C) (L.b i) x.1 x.2 J := by
  intro p c q1 c1 q2 c2 w' _ _ _ _ cx
  exact hJ p c q1 c1 q2 c2 w' ((refocus hi cx).weak fun M w h => ⟨⟨h.1.1, h.2⟩, (ClS_at hi).2 h.1.2⟩)

end Go.Proofs.Ytifgijoeckoojaa
