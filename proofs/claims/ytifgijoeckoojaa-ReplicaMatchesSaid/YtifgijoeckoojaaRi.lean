/-
  Replica: Hear.
-/
import Derived.Test.YtifgijoeckoojaaRh
set_option linter.unusedVariables false
set_option linter.unusedSimpArgs false
namespace Go.Proofs.Ytifgijoeckoojaa
open Go.Vc

def finO (r : Rep) (x : Rep × OutR) : Rep × OutR := if (decide (x.1.term = r.term) && decide (x.1.vote = r.vote)) = true then x else (x.1, { x.2 with save := true, term := x.1.term, vote := x.1.vote })
def upR (r : Rep) (m : MsgR) : Rep := { r with term := m.term, vote := -1, role := 0 }
def hearX (r1 : Rep) (m : MsgR) : Rep × OutR := if m.kind = 0 then voteP r1 m else if m.kind = 1 then votedP r1 m else if m.kind = 2 then appendP r1 m else appendedP r1 m

theorem hear_no {r : Rep} {m : MsgR} (h : rightP r.id m = false) : hearP r m = (r, out0) := by unfold hearP; rw [if_pos h]
theorem hear_yes {r : Rep} {m : MsgR} (h : rightP r.id m = true) : hearP r m = finO r (hearX (if r.term < m.term then upR r m else r) m) := by unfold hearP; rw [if_neg (by rw [h]; simp)]; rfl

theorem up_ok {r : Rep} (h : r.Ok) (m : MsgR) (hm : m.Right r.id) (ht : r.term < m.term) : (upR r m).Ok := by
  have h1 := h.term0
  have h2 := hm.term.2
  refine ⟨h.id, by show 0 ≤ m.term; omega, h2, by show (-1 : Int) ≤ -1; omega, by show (-1 : Int) ≤ 2; omega, ⟨h.log.lo, fun x hx => ?_, h.log.data, h.log.asc⟩, h.len, .inl rfl, h.commit, fun hr => ?_, h.bound⟩
  · have := h.log.hi x hx
    show x.term ≤ m.term
    omega
  · cases (show (0 : Int) = 2 from hr)

theorem okAgg40 : okAgg Try.prog 40 = true := by kernel_rfl

theorem hear_post {W : World} {S G : List Own} {Φ : PW} [Stable Φ] {b : Nat} {r : Rep} {x : Rep × OutR} {J : Value → World → Prop} (hK : OutK W S Φ b (finO r x).1 (finO r x).2 J) :
    OutK W (S ++ G) Φ b x.1 x.2 (fun v w => ∃ (c : Bool) (n1 n2 n3 : Int) (p1 : Option Addr) (k1 k2 : Nat) (p2 : Option Addr) (k3 k4 : Nat), Ending.returned v = .returned (.agg #[.bool c, .int .i64 n1, .int .i64 n2, .int .i64 n3, .slice p1 k1 k2, .slice p2 k3 k4]) ∧
      ∃ (R : List Own) (Φ' : PW), Stable Φ' ∧ Ctx W w (R ++ G) Φ' ∧ ∀ (w : World) (F : List Own), Ctx W w (R ++ F) Φ' → ∃ (a1 a2 : Int), RowAt w b (0 + 1) [.int .i64 a1, .int .i64 a2] ∧ okAgg Try.prog 40 = true ∧
        Br (!(decide (a1 = r.term) && (decide (a2 = r.vote) && true)))
          (∃ (R2 : List Own) (Φ2 : PW), Stable Φ2 ∧ (∀ (w : World) (F : List Own), Ctx W w (R ++ F) Φ' → Ctx W w (R2 ++ F) Φ2) ∧ ∃ (b1 b2 : Int), (∀ (w : World) (F : List Own), Ctx W w (R2 ++ F) Φ2 → ∃ (d1 d2 : Int), RowAt w b (0 + 1) [.int .i64 d1, .int .i64 d2] ∧ Value.agg #[.int .i64 d1, .int .i64 d2] = Value.agg #[.int .i64 b1, .int .i64 b2]) ∧
            (∀ (w : World) (F : List Own), Ctx W w (R ++ F) Φ' → Ctx W w (R2 ++ F) Φ2) ∧ (∀ (w : World) (F : List Own), Ctx W w (R ++ F) Φ' → Ctx W w (R2 ++ F) Φ2) ∧ ∀ (w : World) (F : List Own), Ctx W w (R ++ F) Φ' → J (.agg #[.bool true, .int .i64 b1, .int .i64 b2, .int .i64 n3, .slice p1 k1 k2, .slice p2 k3 k4]) w)
          (∀ (w : World) (F : List Own), Ctx W w (R ++ F) Φ' → J (.agg #[.bool c, .int .i64 n1, .int .i64 n2, .int .i64 n3, .slice p1 k1 k2, .slice p2 k3 k4]) w)) := by
  obtain ⟨r', o⟩ := x
  intro p' c' q1 c1 q2 c2 w h1 h2 h3 h4 cx
  have hrow : ∀ {w : World} {F : List Own}, Ctx W w (repO b r' p' c' ++ S ++ F) (OPhi Φ q1 o.recs q2 o.send) → RowAt w b (0 + 1) [.int .i64 r'.term, .int .i64 r'.vote] := fun cx => cx.row 0 rfl (rows_of (vs := [.int .i64 r'.term, .int .i64 r'.vote]) rfl)
  refine ⟨_, _, _, _, q1, _, c1, q2, _, c2, rfl, repO b r' p' c' ++ S, OPhi Φ q1 o.recs q2 o.send, inferInstance, gr cx, fun w F cx => ⟨r'.term, r'.vote, hrow cx, okAgg40, Br.intro (fun hd => ?_) (fun hd => ?_)⟩⟩
  · have hf : finO r (r', o) = (r', { o with save := true, term := r'.term, vote := r'.vote }) := by
      unfold finO
      rw [if_neg]
      intro h
      simp only [Bool.and_true, Bool.not_eq_true'] at hd
      rw [hd] at h; cases h
    rw [hf] at hK
    exact ⟨repO b r' p' c' ++ S, OPhi Φ q1 o.recs q2 o.send, inferInstance, fun w F cx => cx, r'.term, r'.vote, fun w F cx => ⟨_, _, hrow cx, rfl⟩, fun w F cx => cx, fun w F cx => cx, fun w F cx => hK p' c' q1 c1 q2 c2 w h1 h2 h3 h4 cx.left⟩
  · have hf : finO r (r', o) = (r', o) := by
      unfold finO
      rw [if_pos]
      simpa using hd
    rw [hf] at hK
    exact fun w F cx => hK p' c' q1 c1 q2 c2 w h1 h2 h3 h4 cx.left

set_option maxHeartbeats 2000000 in
theorem Hear_use {W w : World} {S : List Own} {Φ : PW} [Stable Φ] {b : Nat} {r : Rep} {p : Option Addr} {c : Nat} (cx : Ctx W w (repO b r p c ++ S) Φ) (hr : r.Ok) (m : MsgR) (hmo : m.Ok) (q : Option Addr) (qc : Nat) (hsl : ∀ M w, Φ M w → Sl M w q m.recs) (hqc : m.recs.length ≤ qc) (hqm : qc ≤ maxLen) {K : Ending → World → Prop}
    (hK : OutK W S Φ b (hearP r m).1 (hearP r m).2 fun v w => K (.returned v) w) : Calls Try.prog F.replica_Replica_Hear #[.pointer (some ⟨b, 0, none⟩), m.v q qc] w K := by
  refine (Breplica_Replica_Hear_run b 0 m.kind m.src m.to m.term m.index m.prev m.commit m.yes q m.recs.length qc (J := fun u w' => K (.returned u) w') cx ?_).mono fun e w' ⟨v, he, hj⟩ => by rw [he]; exact hj
  refine fun _ _ w G cx => right_use (gl cx) m q qc hsl (Nat.le_trans hqc (Nat.le_trans hqm (by decide))) hmo.index fun w cx => ⟨_, rfl, repO b r p c ++ S, Φ, inferInstance, gr cx, Br.intro (fun h => fun w G cx => ?_) (fun h => fun w G cx => ⟨r.term, r.vote, cx.row 0 rfl (rows_of (vs := [.int .i64 r.term, .int .i64 r.vote]) rfl), fun _ w G cx => ⟨r.term, cx.get 0 rfl rfl, Br.intro (fun ht => fun w G cx => ⟨cx.can 0 rfl (by simp), fun w' hw' => ?_⟩) (fun ht => ?_)⟩⟩)⟩
  · rw [hear_no (by simpa using h)] at hK
    exact hK.zero cx.left
  all_goals
    have hy : rightP r.id m = true := by simpa using h
    have hmr := right_iff.1 hy
    obtain ⟨hs1, hs2, hs3⟩ := hmr.src
    obtain ⟨hk1, hk2⟩ := hmr.kind
    obtain ⟨hi1, hi2⟩ := hmr.index
    rw [hear_yes hy] at hK
  · have ht := of_decide_eq_true ht
    rw [if_pos ht] at hK
    have hu := up_ok hr m hmr ht
    have cx1 := gr (puts_rep (gl cx) hw' { r with term := m.term, vote := -1 } rfl rfl)
    refine ⟨_, Φ, inferInstance, cx1, fun w G cx => ⟨cx.can 0 rfl (by simp), fun w' hw' => ?_⟩⟩
    have cx1 : Ctx W w' (repO b (upR r m) p c ++ S ++ G) Φ := gr (put_rep (gl cx) hw' (upR r m) rfl rfl)
    refine ⟨_, Φ, inferInstance, cx1, fun _ => Br.intro (fun k0 => fun w G cx => ?_) (fun k0 => Br.intro (fun k1 => fun w G cx => ?_) (fun k1 => Br.intro (fun k2 => fun w G cx => ?_) (fun k2 => Br.intro (fun k3 => fun w G cx => ?_) (fun k3 => ?_))))⟩
    · rw [show hearX (upR r m) m = voteP (upR r m) m by unfold hearX; rw [if_pos (of_decide_eq_true k0)]] at hK
      exact vote_use (gl cx) hu m q qc hs2 hs3 (hear_post hK)
    · rw [show hearX (upR r m) m = votedP (upR r m) m by unfold hearX; rw [if_neg (of_decide_eq_false k0), if_pos (of_decide_eq_true k1)]] at hK
      exact voted_use (gl cx) hu m q qc hs2 hs3 (hear_post hK)
    · rw [show hearX (upR r m) m = appendP (upR r m) m by unfold hearX; rw [if_neg (of_decide_eq_false k0), if_neg (of_decide_eq_false k1), if_pos (of_decide_eq_true k2)]] at hK
      exact append_use (gl cx) hu m hmr q qc hsl hqc (hear_post hK)
    · rw [show hearX (upR r m) m = appendedP (upR r m) m by unfold hearX; rw [if_neg (of_decide_eq_false k0), if_neg (of_decide_eq_false k1), if_neg (of_decide_eq_false k2)]] at hK
      exact appended_use (gl cx) hu m q qc hs2 hs3 hi1 hi2 (hear_post hK)
    · exfalso
      have := of_decide_eq_false k0; have := of_decide_eq_false k1; have := of_decide_eq_false k2; have := of_decide_eq_false k3
      omega
  · have ht := of_decide_eq_false ht
    rw [if_neg ht] at hK
    refine fun _ => Br.intro (fun k0 => fun w G cx => ?_) (fun k0 => Br.intro (fun k1 => fun w G cx => ?_) (fun k1 => Br.intro (fun k2 => fun w G cx => ?_) (fun k2 => Br.intro (fun k3 => fun w G cx => ?_) (fun k3 => ?_))))
    · rw [show hearX r m = voteP r m by unfold hearX; rw [if_pos (of_decide_eq_true k0)]] at hK
      exact vote_use (gl cx) hr m q qc hs2 hs3 (hear_post hK)
    · rw [show hearX r m = votedP r m by unfold hearX; rw [if_neg (of_decide_eq_false k0), if_pos (of_decide_eq_true k1)]] at hK
      exact voted_use (gl cx) hr m q qc hs2 hs3 (hear_post hK)
    · rw [show hearX r m = appendP r m by unfold hearX; rw [if_neg (of_decide_eq_false k0), if_neg (of_decide_eq_false k1), if_pos (of_decide_eq_true k2)]] at hK
      exact append_use (gl cx) hr m hmr q qc hsl hqc (hear_post hK)
    · rw [show hearX r m = appendedP r m by unfold hearX; rw [if_neg (of_decide_eq_false k0), if_neg (of_decide_eq_false k1), if_neg (of_decide_eq_false k2)]] at hK
      exact appended_use (gl cx) hr m q qc hs2 hs3 hi1 hi2 (hear_post hK)
    · exfalso
      have := of_decide_eq_false k0; have := of_decide_eq_false k1; have := of_decide_eq_false k2; have := of_decide_eq_false k3
      omega

end Go.Proofs.Ytifgijoeckoojaa
