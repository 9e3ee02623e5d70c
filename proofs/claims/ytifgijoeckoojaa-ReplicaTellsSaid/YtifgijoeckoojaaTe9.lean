/-
  The reference's replica: New.
-/
import Derived.Test.YtifgijoeckoojaaTe7
import Derived.Test.YtifgijoeckoojaaTe8
import Derived.Test.YtifgijoeckoojaaTe4

section
set_option linter.unusedVariables false
set_option linter.unusedSimpArgs false
namespace Go.Proofs.Ytifgijoeckoojaa
open Go.Vc


theorem pull1 {α : Type} {a b : α} {l r : List α} (h : (b :: l).Perm r) : (b :: a :: l).Perm (a :: r) := (List.Perm.swap _ _ _).trans (List.Perm.cons _ h)
theorem pull2 {α : Type} {a b c : α} {l r : List α} (h : (b :: c :: l).Perm r) : (b :: c :: a :: l).Perm (a :: r) := (List.perm_middle (l₁ := [b, c])).trans (List.Perm.cons _ h)
theorem pull3 {α : Type} {a b c d : α} {l r : List α} (h : (b :: c :: d :: l).Perm r) : (b :: c :: d :: a :: l).Perm (a :: r) := (List.perm_middle (l₁ := [b, c, d])).trans (List.Perm.cons _ h)
theorem pull4 {α : Type} {a b c d e : α} {l r : List α} (h : (b :: c :: d :: e :: l).Perm r) : (b :: c :: d :: e :: a :: l).Perm (a :: r) := (List.perm_middle (l₁ := [b, c, d, e])).trans (List.Perm.cons _ h)

/-- the entries that came in are copied; what follows is the same for every order -/
theorem clone_in {W w : World} {A S G : List Own} {Φ : PW} [Stable Φ] {k : Nat} {q : Option Addr} {qc : Nat} {l : List RecD} (hsl : ∀ M w, Φ M w → Sl M w q l) (hlen : l.length < 100000000) {C : Option Addr → Nat → Nat → List Own → PW → Prop}
    (h : ∀ p cap, C p l.length cap (.buf p l.length cap (recCells l) 55 2 :: (A ++ S)) Φ) (cx : Ctx W w (A ++ .blk k [] 55 :: S ++ G) Φ) :
    ∃ p n cap w', Sem.run Try.prog (builtin Builtin.append #[35, 35] 35 #[false, false] #[.slice (some ⟨k, 0, none⟩) 0 0, .slice q l.length qc]) w = .ok (.value (.slice p n cap)) w' ∧ ∃ (R : List Own) (Φ' : PW), Stable Φ' ∧ Ctx W w' (R ++ G) Φ' ∧ C p n cap R Φ' := by
  have cx1 : Ctx W w (.blk k [] 55 :: ((A ++ S) ++ G)) Φ := by
    refine cx.perm ?_
    show ((A ++ .blk k [] 55 :: S) ++ G).Perm ((.blk k [] 55 :: (A ++ S)) ++ G)
    exact List.Perm.append_right G List.perm_middle
  obtain ⟨p', cap', w', cs, hrun, cx'⟩ := Ctx.cloned (P := Try.prog) (α := RecD) (ts := 35) (ty := 35) (kb := #[false, false]) (bytes := 24) (c2 := qc) cx1 (by kernel_rfl) rec_one hsl hlen (by omega)
  obtain ⟨rfl, _⟩ := elems_recs cx'.phi.2
  exact ⟨p', _, cap', w', hrun, _, Φ, inferInstance, cx'.fst, h p' cap'⟩

set_option maxHeartbeats 8000000 in
theorem qNew_use {W w : World} {S : List Own} {Φ : PW} [Stable Φ] (cx : Ctx W w S Φ) (id term vote : Int) (l : List RecD) (q : Option Addr) (qc : Nat) (hsl : ∀ M w, Φ M w → Sl M w q l) (hlen : l.length ≤ 9223372036854775807) {K : Ending → World → Prop}
    (h0 : newB id term vote l = false → ∀ w', Ctx W w' S Φ → K (.returned (.pointer none)) w')
    (h1 : newB id term vote l = true → ∀ L p c w', Ctx W w' (refO L (newRep id.toNat term vote l) p c ++ S) Φ → K (.returned (.pointer (some ⟨L.b, 0, none⟩))) w') : Calls Try.prog F.errataref08_New #[.int .i64 id, .agg #[.int .i64 term, .int .i64 vote], .slice q l.length qc] w K := by
  refine (Berrataref08_New_run id term vote q l.length qc (J := fun u w' => K (.returned u) w') cx ?_).mono fun e w' ⟨v, he, hj⟩ => by rw [he]; exact hj
  have hf : ∀ {w : World} {G : List Own}, ¬ (((((((0 ≤ id ∧ id ≤ 2) ∧ 0 ≤ term) ∧ term ≤ 1099511627776) ∧ -1 ≤ vote) ∧ vote ≤ 2) ∧ (l.length : Int) ≤ 4000) ∧ soundR l 1 term = true) → Ctx W w (S ++ G) Φ → K (.returned (.pointer none)) w := fun h cx => h0 (by
    unfold newB
    rw [Bool.eq_false_iff]; intro hr
    simp only [Bool.and_eq_true, decide_eq_true_eq] at hr
    exact h hr) _ cx.left
  refine fun _ => Br.intro (fun h => fun w G cx => hf (fun hh => by have := of_decide_eq_true h; omega) cx) (fun g1 => Br.intro (fun h => fun w G cx => hf (fun hh => by have := of_decide_eq_true h; omega) cx) (fun g2 => Br.intro (fun h => fun w G cx => hf (fun hh => by have := of_decide_eq_true h; omega) cx) (fun g3 => Br.intro (fun h => fun w G cx => hf (fun hh => by have := of_decide_eq_true h; omega) cx) (fun g4 => Br.intro (fun h => fun w G cx => hf (fun hh => by have := of_decide_eq_true h; omega) cx) (fun g5 => Br.intro (fun h => fun w G cx => hf (fun hh => by have := of_decide_eq_true h; omega) cx) (fun g6 => Br.intro (fun h => fun w G cx => hf (fun hh => by have := of_decide_eq_true h; omega) cx) (fun g7 => fun w G cx => (qsound_in q qc l 1 term hsl hlen).use cx fun w cx => ⟨_, rfl, S, Φ, inferInstance, cx, Br.intro (fun h => fun w G cx => hf (fun hh => by rw [hh.2] at h; cases h) cx) (fun g8 => ?_)⟩)))))))
  have g1 := of_decide_eq_false g1
  have g2 := of_decide_eq_false g2
  have g3 := of_decide_eq_false g3
  have g4 := of_decide_eq_false g4
  have g5 := of_decide_eq_false g5
  have g6 := of_decide_eq_false g6
  have g7 := of_decide_eq_false g7
  have g8 : soundR l 1 term = true := by simpa using g8
  have hn : newB id term vote l = true := by
    unfold newB
    rw [g8, Bool.and_true]
    simp only [Bool.and_eq_true, decide_eq_true_eq]
    omega
  have hid : id = (id.toNat : Nat) := by omega
  have hfin : ∀ (bb vv nn mm : Nat) (p : Option Addr) (c : Nat) (X : List Own), X.Perm (.blk bb [.int .i64 id, .int .i64 term, .int .i64 vote, .slice p l.length c, .int .i64 0, .int .i64 0, .slice (some ⟨vv, 0, none⟩) 3 3, .slice (some ⟨nn, 0, none⟩) 3 3, .slice (some ⟨mm, 0, none⟩) 3 3] 67 :: .buf p l.length c (recCells l) 55 2 ::
      .blk vv [.bool false, .bool false, .bool false] 4 :: .blk nn [.int .i64 0, .int .i64 0, .int .i64 0] 3 :: .blk mm [.int .i64 0, .int .i64 0, .int .i64 0] 3 :: S) → ∀ (w : World) (G : List Own), Ctx W w (X ++ G) Φ → K (.returned (.pointer (some ⟨bb, 0, none⟩))) w := fun bb vv nn mm p c X hx w G cx => by
    refine h1 hn ⟨bb, vv, nn, mm⟩ p c w ?_
    have := cx.left.perm hx
    rw [hid] at this
    exact this
  clear h0 h1 hf
  refine ⟨[], fun _ _ => True, inferInstance, fun w G cx => (cx.weak fun _ _ _ => trivial).right, ?_⟩
  repeat' first
    | exact trivial
    | refine ⟨by omega, fun k => ⟨fun w G cx => (cx.weak fun _ _ _ => trivial).right, ?_⟩⟩
    | refine fun k => ⟨fun w G cx => (cx.weak fun _ _ _ => trivial).right, ?_⟩
    | refine fun w G cx => clone_in (A := []) hsl (by omega) (fun p cap => ⟨fun w G cx => (cx.weak fun _ _ _ => trivial).right, ?_⟩) cx
    | refine fun w G cx => clone_in (A := [_]) hsl (by omega) (fun p cap => ⟨fun w G cx => (cx.weak fun _ _ _ => trivial).right, ?_⟩) cx
    | refine fun w G cx => clone_in (A := [_, _]) hsl (by omega) (fun p cap => ⟨fun w G cx => (cx.weak fun _ _ _ => trivial).right, ?_⟩) cx
    | refine fun w G cx => clone_in (A := [_, _, _]) hsl (by omega) (fun p cap => ⟨fun w G cx => (cx.weak fun _ _ _ => trivial).right, ?_⟩) cx
    | exact fun w G cx => hfin _ _ _ _ _ _ _ (by repeat (first | exact List.Perm.refl _ | refine List.Perm.cons _ ?_ | refine pull1 ?_ | refine pull2 ?_ | refine pull3 ?_ | refine pull4 ?_)) w G cx
    | refine ⟨?_, ?_⟩

end Go.Proofs.Ytifgijoeckoojaa
end

/-
  The reference's replica: Hear.
-/
section
set_option linter.unusedVariables false
set_option linter.unusedSimpArgs false
namespace Go.Proofs.Ytifgijoeckoojaa
open Go.Vc


theorem qhear_post {W : World} {S G : List Own} {Φ : PW} [Stable Φ] {b : Nat} {r : Rep} {x : Rep × OutR} {J : Value → World → Prop} (hK : OutQ W S Φ b (finO r x).1 (finO r x).2 J) :
    OutQ W (S ++ G) Φ b x.1 x.2 (fun v w => ∃ (c : Bool) (n1 n2 n3 : Int) (p1 : Option Addr) (k1 k2 : Nat) (p2 : Option Addr) (k3 k4 : Nat), Ending.returned v = .returned (.agg #[.bool c, .int .i64 n1, .int .i64 n2, .int .i64 n3, .slice p1 k1 k2, .slice p2 k3 k4]) ∧
      ∃ (R : List Own) (Φ' : PW), Stable Φ' ∧ Ctx W w (R ++ G) Φ' ∧ ∀ (w : World) (F : List Own), Ctx W w (R ++ F) Φ' → ∃ (a1 a2 : Int), RowAt w b (0 + 1) [.int .i64 a1, .int .i64 a2] ∧ okAgg Try.prog 40 = true ∧
        Br (!(decide (a1 = r.term) && (decide (a2 = r.vote) && true)))
          (∀ (w : World) (F : List Own), Ctx W w (R ++ F) Φ' → ∃ (b1 b2 : Int), RowAt w b (0 + 1) [.int .i64 b1, .int .i64 b2] ∧ ∀ (w : World) (F : List Own), Ctx W w (R ++ F) Φ' → J (.agg #[.bool true, .int .i64 b1, .int .i64 b2, .int .i64 n3, .slice p1 k1 k2, .slice p2 k3 k4]) w)
          (∀ (w : World) (F : List Own), Ctx W w (R ++ F) Φ' → J (.agg #[.bool c, .int .i64 n1, .int .i64 n2, .int .i64 n3, .slice p1 k1 k2, .slice p2 k3 k4]) w)) := by
  obtain ⟨r', o⟩ := x
  intro L' p' c' q1 c1 q2 c2 w hL h1 h2 h3 h4 cx
  subst hL
  have hrow : ∀ {w : World} {F : List Own}, Ctx W w (refO L' r' p' c' ++ S ++ F) (OPhi Φ q1 o.recs q2 o.send) → RowAt w L'.b (0 + 1) [.int .i64 r'.term, .int .i64 r'.vote] := fun cx => cx.row 0 rfl (rows_of (vs := [.int .i64 r'.term, .int .i64 r'.vote]) rfl)
  refine ⟨_, _, _, _, q1, _, c1, q2, _, c2, rfl, refO L' r' p' c' ++ S, OPhi Φ q1 o.recs q2 o.send, inferInstance, gr cx, fun w F cx => ⟨r'.term, r'.vote, hrow cx, okAgg40, Br.intro (fun hd => ?_) (fun hd => ?_)⟩⟩
  · have hf : finO r (r', o) = (r', { o with save := true, term := r'.term, vote := r'.vote }) := by
      unfold finO
      rw [if_neg]
      intro h
      simp only [Bool.and_true, Bool.not_eq_true'] at hd
      rw [hd] at h; cases h
    rw [hf] at hK
    exact fun w F cx => ⟨_, _, hrow cx, fun w F cx => hK L' p' c' q1 c1 q2 c2 w rfl h1 h2 h3 h4 cx.left⟩
  · have hf : finO r (r', o) = (r', o) := by
      unfold finO
      rw [if_pos]
      simpa using hd
    rw [hf] at hK
    exact fun w F cx => hK L' p' c' q1 c1 q2 c2 w rfl h1 h2 h3 h4 cx.left

set_option maxHeartbeats 2000000 in
theorem qHear_use {W w : World} {S : List Own} {Φ : PW} [Stable Φ] {L : Loc} {r : Rep} {p : Option Addr} {c : Nat} (cx : Ctx W w (refO L r p c ++ S) Φ) (hr : r.Ok) (m : MsgR) (hmo : m.Ok) (q : Option Addr) (qc : Nat) (hsl : ∀ M w, Φ M w → Sl M w q m.recs) (hqc : m.recs.length ≤ qc) (hqm : qc ≤ maxLen) {K : Ending → World → Prop}
    (hK : OutQ W S Φ L.b (hearP r m).1 (hearP r m).2 fun v w => K (.returned v) w) : Calls Try.prog F.errataref08_Replica_Hear #[.pointer (some ⟨L.b, 0, none⟩), m.v q qc] w K := by
  refine (Berrataref08_Replica_Hear_run L.b 0 m.kind m.src m.to m.term m.index m.prev m.commit m.yes q m.recs.length qc (J := fun u w' => K (.returned u) w') cx ?_).mono fun e w' ⟨v, he, hj⟩ => by rw [he]; exact hj
  refine fun _ _ => ⟨refO L r p c ++ S, Φ, inferInstance, fun w G cx => cx, r.id, fun w G cx => ⟨r.id, cx.get 0 rfl rfl, rfl⟩, fun w G cx => (qRight_in r.id m q qc hsl (Nat.le_trans hqc (Nat.le_trans hqm (by decide))) hmo.index).use (gl cx) fun w cx => ⟨_, rfl, refO L r p c ++ S, Φ, inferInstance, gr cx, Br.intro (fun h => fun w G cx => ?_) (fun h => fun w G cx => ⟨r.term, r.vote, cx.row 0 rfl (rows_of (vs := [.int .i64 r.term, .int .i64 r.vote]) rfl), fun _ w G cx => ⟨r.term, cx.get 0 rfl rfl, Br.intro (fun ht => fun w G cx => ⟨cx.can 0 rfl (by simp), fun w' hw' => ?_⟩) (fun ht => ?_)⟩⟩)⟩⟩
  · rw [hear_no (by simpa using h)] at hK
    exact hK.zero cx.left
  all_goals
    have hy : rightP r.id m = true := by simpa using h
    have hmr := right_iff.1 hy
    obtain ⟨hs1, hs2, hs3⟩ := hmr.src
    obtain ⟨hk1, hk2⟩ := hmr.kind
    obtain ⟨hi1, hi2⟩ := hmr.index
    rw [hear_yes hy] at hK
  · have ht := of_decide_eq_true ht
    rw [if_pos ht] at hK
    have hu := up_ok hr m hmr ht
    have cx1 := gr (puts_ref (gl cx) hw' { r with term := m.term, vote := -1 } rfl rfl rfl rfl rfl)
    refine ⟨_, Φ, inferInstance, cx1, fun w G cx => ⟨cx.can 0 rfl (by simp), fun w' hw' => ?_⟩⟩
    have cx1 : Ctx W w' (refO L (upR r m) p c ++ S ++ G) Φ := gr (put_ref (gl cx) hw' (upR r m) rfl rfl rfl rfl rfl)
    refine ⟨_, Φ, inferInstance, cx1, fun _ => Br.intro (fun k0 => fun w G cx => ?_) (fun k0 => Br.intro (fun k1 => fun w G cx => ?_) (fun k1 => Br.intro (fun k2 => fun w G cx => ?_) (fun k2 => Br.intro (fun k3 => fun w G cx => ?_) (fun k3 => ?_))))⟩
    · rw [show hearX (upR r m) m = voteP (upR r m) m by unfold hearX; rw [if_pos (of_decide_eq_true k0)]] at hK
      exact qvote_use (gl cx) hu m q qc hs2 hs3 (qhear_post hK)
    · rw [show hearX (upR r m) m = votedP (upR r m) m by unfold hearX; rw [if_neg (of_decide_eq_false k0), if_pos (of_decide_eq_true k1)]] at hK
      exact qvoted_use (gl cx) hu m q qc hs2 hs3 (qhear_post hK)
    · rw [show hearX (upR r m) m = appendP (upR r m) m by unfold hearX; rw [if_neg (of_decide_eq_false k0), if_neg (of_decide_eq_false k1), if_pos (of_decide_eq_true k2)]] at hK
      exact qappend_use (gl cx) hu m hmr q qc hsl hqc (qhear_post hK)
    · rw [show hearX (upR r m) m = appendedP (upR r m) m by unfold hearX; rw [if_neg (of_decide_eq_false k0), if_neg (of_decide_eq_false k1), if_neg (of_decide_eq_false k2)]] at hK
      exact qappended_use (gl cx) hu m q qc hs2 hs3 hi1 hi2 (qhear_post hK)
    · exfalso
      have := of_decide_eq_false k0; have := of_decide_eq_false k1; have := of_decide_eq_false k2; have := of_decide_eq_false k3
      omega
  · have ht := of_decide_eq_false ht
    rw [if_neg ht] at hK
    refine fun _ => Br.intro (fun k0 => fun w G cx => ?_) (fun k0 => Br.intro (fun k1 => fun w G cx => ?_) (fun k1 => Br.intro (fun k2 => fun w G cx => ?_) (fun k2 => Br.intro (fun k3 => fun w G cx => ?_) (fun k3 => ?_))))
    · rw [show hearX r m = voteP r m by unfold hearX; rw [if_pos (of_decide_eq_true k0)]] at hK
      exact qvote_use (gl cx) hr m q qc hs2 hs3 (qhear_post hK)
    · rw [show hearX r m = votedP r m by unfold hearX; rw [if_neg (of_decide_eq_false k0), if_pos (of_decide_eq_true k1)]] at hK
      exact qvoted_use (gl cx) hr m q qc hs2 hs3 (qhear_post hK)
    · rw [show hearX r m = appendP r m by unfold hearX; rw [if_neg (of_decide_eq_false k0), if_neg (of_decide_eq_false k1), if_pos (of_decide_eq_true k2)]] at hK
      exact qappend_use (gl cx) hr m hmr q qc hsl hqc (qhear_post hK)
    · rw [show hearX r m = appendedP r m by unfold hearX; rw [if_neg (of_decide_eq_false k0), if_neg (of_decide_eq_false k1), if_neg (of_decide_eq_false k2)]] at hK
      exact qappended_use (gl cx) hr m q qc hs2 hs3 hi1 hi2 (qhear_post hK)
    · exfalso
      have := of_decide_eq_false k0; have := of_decide_eq_false k1; have := of_decide_eq_false k2; have := of_decide_eq_false k3
      omega

end Go.Proofs.Ytifgijoeckoojaa
end

/-
  The conditions of the walks of some functions, one formula each; 'B<f>_run' says that they suffice. The formulas are printed by a program; the kernel compares them with the functions' code.
-/
section
namespace Go.Proofs.Ytifgijoeckoojaa
set_option linter.unusedVariables false
set_option linter.unusedSimpArgs false
open Go.Vc

/-- erratalaw08.pick -/
def Qerratalaw08_pick (n : Int) (m : Int) (w : World) (J : Value → World → Prop) : Prop :=
  Br (decide (m < 1)) (J (Value.int IntKind.i64 0) w) ((m = 0 → False) ∧ Br (decide (n.tmod m < 0)) (I64 (n.tmod m + m) ∧ J (Value.int IntKind.i64 (n.tmod m + m)) w) (J (Value.int IntKind.i64
  (n.tmod m)) w))

end Go.Proofs.Ytifgijoeckoojaa
end

/-
  The conditions of the walks of some functions, one formula each; 'B<f>_run' says that they suffice. The formulas are printed by a program; the kernel compares them with the functions' code.
-/
section
namespace Go.Proofs.Ytifgijoeckoojaa
set_option linter.unusedVariables false
set_option linter.unusedSimpArgs false
set_option maxRecDepth 100000
open Go.Vc

/-- erratalaw08.ReplicaTells -/
-- loop at region 9: 14 i; blocks 
-- known blocks: 6 h, 15 a, 16 b, 20 o, 23 p
def Berratalaw08_ReplicaTells (id : Int) (h0 : Int) (h1 : Int) (logP : Option Addr) (logN logC : Nat) (lP : Option Addr) (lN lC : Nat) (mP : Option Addr) (mN mC : Nat) (W : World) (R : List Own) (Φ : PW) (J : Value → World → Prop) : Prop :=
  ∀ (b : Nat) (w0 : World) (R1 : List Own), Ctx W w0 (R ++ R1) Φ → Calls Try.prog F.erratalaw08_small #[] w0 fun (e2 : Ending) (w3 : World) => ∃ (c4 : Bool), e2 = Ending.returned (Value.bool
  c4) ∧ ∃ (R5 : List Own), ∃ (Φ6 : PW), Stable Φ6 ∧ Ctx W w3 (R5 ++ R1) Φ6 ∧ Br (decide (20 < (↑logN : Int))) (∀ (w7 : World) (R8 : List Own), Ctx W w7 (R5 ++ R8) Φ6 → J (Value.bool c4) w7)
  (∀ (w9 : World) (R10 : List Own), Ctx W w9 (R5 ++ R10) Φ6 → Calls Try.prog F.erratalaw08_few #[Value.slice lP lN lC, Value.int IntKind.i64 60] w9 fun (e11 : Ending) (w12 : World) => ∃ (c13
  : Bool), e11 = Ending.returned (Value.bool c13) ∧ ∃ (R14 : List Own), ∃ (Φ15 : PW), Stable Φ15 ∧ Ctx W w12 (R14 ++ R10) Φ15 ∧ Br (!c13) (∀ (w16 : World) (R17 : List Own), Ctx W w16 (R14 ++
  R17) Φ15 → J (Value.bool c4) w16) (Br (decide (60 < (↑mN : Int))) (∀ (w18 : World) (R19 : List Own), Ctx W w18 (R14 ++ R19) Φ15 → J (Value.bool c4) w18) (∀ (w20 : World) (R21 : List Own),
  Ctx W w20 (R14 ++ R21) Φ15 → Calls Try.prog F.erratalaw08_short #[Value.slice logP logN logC] w20 fun (e22 : Ending) (w23 : World) => ∃ (c24 : Bool), e22 = Ending.returned (Value.bool c24)
  ∧ ∃ (R25 : List Own), ∃ (Φ26 : PW), Stable Φ26 ∧ Ctx W w23 (R25 ++ R21) Φ26 ∧ Br (!c24) (∀ (w27 : World) (R28 : List Own), Ctx W w27 (R25 ++ R28) Φ26 → J (Value.bool c4) w27) (∀ (w29 :
  World) (R30 : List Own), Ctx W w29 (R25 ++ R30) Φ26 → Calls Try.prog F.replica_New #[Value.int IntKind.i64 id, Value.agg #[Value.int IntKind.i64 h0, Value.int IntKind.i64 h1], Value.slice
  logP logN logC] w29 fun (e31 : Ending) (w32 : World) => ∃ (p33 : Option Addr), e31 = Ending.returned (Value.pointer p33) ∧ ∃ (R34 : List Own), ∃ (Φ35 : PW), Stable Φ35 ∧ Ctx W w32 (R34 ++
  R30) Φ35 ∧ ∀ (w36 : World) (R37 : List Own), Ctx W w36 (R34 ++ R37) Φ35 → Calls Try.prog F.errataref08_New #[Value.int IntKind.i64 id, Value.agg #[Value.int IntKind.i64 h0, Value.int
  IntKind.i64 h1], Value.slice logP logN logC] w36 fun (e38 : Ending) (w39 : World) => ∃ (p40 : Option Addr), e38 = Ending.returned (Value.pointer p40) ∧ ∃ (R41 : List Own), ∃ (Φ42 : PW),
  Stable Φ42 ∧ Ctx W w39 (R41 ++ R37) Φ42 ∧ Br ((!p33.isNone) != !p40.isNone) (∀ (w43 : World) (R44 : List Own), Ctx W w43 (R41 ++ R44) Φ42 → J (Value.bool false) w43) (exI fun (I45 : Int →
  List Own → PW → Nat → Prop) => (∃ (R46 : List Own), ∃ (Φ47 : PW), ∃ (k48 : Nat), Stable Φ47 ∧ (∀ (w49 : World) (R50 : List Own), Ctx W w49 (R41 ++ R50) Φ42 → Ctx W w49 (R46 ++ R50) Φ47) ∧
  I45 0 R46 Φ47 k48) ∧ ∀ (n51 : Int) (R52 : List Own) (I53 : List Nat → World → Prop) (k54 : Nat), Stable I53 → I45 n51 R52 I53 k54 → ∀ (w55 : World) (R56 : List Own), Ctx W w55 (R52 ++ R56)
  I53 → Br (decide (n51 < (↑lN : Int)) && !p33.isNone && !p40.isNone) (∀ (b b : Nat), (0 ≤ n51 ∧ n51 < (↑lN : Int)) ∧ ptrK none lP fun (k57 k58 : Nat) => ∀ (w59 : World) (R60 : List Own), Ctx
  W w59 (R52 ++ R60) I53 → ∃ (n61 : Int), w59.cell? (Addr.mk k57 (k58 + n51.toNat * 4) none) = some (Value.int IntKind.i64 n61) ∧ ∃ (n62 : Int), (∀ (w63 : World), Sem.run Try.prog (binOp
  BinOp.and 3 (Value.int IntKind.i64 n61) (Value.int IntKind.i64 15)) w63 = Result.ok (Value.int IntKind.i64 n62) w63) ∧ ∀ (w64 : World) (R65 : List Own), Ctx W w64 (R52 ++ R65) I53 → Br
  (decide (n62 < 10) && decide (n51 < (↑mN : Int))) ((0 ≤ n51 ∧ n51 < (↑mN : Int)) ∧ ptrK none mP fun (k66 k67 : Nat) => ∀ (w68 : World) (R69 : List Own), Ctx W w68 (R52 ++ R69) I53 → ∃ (p70
  : Option Addr), ∃ (k71 : Nat), ∃ (k72 : Nat), w68.cell? (Addr.mk k66 (k67 + n51.toNat * 9 + 8) none) = some (Value.slice p70 k71 k72) ∧ ∀ (w73 : World) (R74 : List Own), Ctx W w73 (R52 ++
  R74) I53 → Calls Try.prog F.erratalaw08_short #[Value.slice p70 k71 k72] w73 fun (e75 : Ending) (w76 : World) => ∃ (c77 : Bool), e75 = Ending.returned (Value.bool c77) ∧ ∃ (R78 : List Own),
  ∃ (Φ79 : PW), Stable Φ79 ∧ Ctx W w76 (R78 ++ R74) Φ79 ∧ Br (!c77) (∀ (w80 : World) (R81 : List Own), Ctx W w80 (R78 ++ R81) Φ79 → J (Value.bool c4) w80) ((0 ≤ n51 ∧ n51 < (↑mN : Int)) ∧
  ptrK none mP fun (k82 k83 : Nat) => ∀ (w84 : World) (R85 : List Own), Ctx W w84 (R78 ++ R85) Φ79 → ∃ (p86 : Option Addr), ∃ (k87 : Nat), ∃ (k88 : Nat), w84.cell? (Addr.mk k82 (k83 +
  n51.toNat * 9 + 8) none) = some (Value.slice p86 k87 k88) ∧ Br (decide (10 < (↑k87 : Int))) (∀ (w89 : World) (R90 : List Own), Ctx W w89 (R78 ++ R90) Φ79 → J (Value.bool c4) w89) ((0 ≤ n51
  ∧ n51 < (↑mN : Int)) ∧ ptrK none mP fun (k91 k92 : Nat) => ∀ (w93 : World) (R94 : List Own), Ctx W w93 (R78 ++ R94) Φ79 → ∃ (n95 : Int), ∃ (n96 : Int), ∃ (n97 : Int), ∃ (n98 : Int), ∃ (n99
  : Int), ∃ (n100 : Int), ∃ (n101 : Int), ∃ (c102 : Bool), ∃ (p103 : Option Addr), ∃ (k104 : Nat), ∃ (k105 : Nat), RowAt w93 k91 (k92 + n51.toNat * 9) [Value.int IntKind.i64 n95, Value.int
  IntKind.i64 n96, Value.int IntKind.i64 n97, Value.int IntKind.i64 n98, Value.int IntKind.i64 n99, Value.int IntKind.i64 n100, Value.int IntKind.i64 n101, Value.bool c102, Value.slice p103
  k104 k105] ∧ ∀ (w106 : World) (R107 : List Own), Ctx W w106 (R78 ++ R107) Φ79 → Calls Try.prog F.replica_Replica_Hear #[Value.pointer p33, Value.agg #[Value.int IntKind.i64 n95, Value.int
  IntKind.i64 n96, Value.int IntKind.i64 n97, Value.int IntKind.i64 n98, Value.int IntKind.i64 n99, Value.int IntKind.i64 n100, Value.int IntKind.i64 n101, Value.bool c102, Value.slice p103
  k104 k105]] w106 fun (e108 : Ending) (w109 : World) => ∃ (c110 : Bool), ∃ (n111 : Int), ∃ (n112 : Int), ∃ (n113 : Int), ∃ (p114 : Option Addr), ∃ (k115 : Nat), ∃ (k116 : Nat), ∃ (p117 :
  Option Addr), ∃ (k118 : Nat), ∃ (k119 : Nat), e108 = Ending.returned (Value.agg #[Value.bool c110, Value.int IntKind.i64 n111, Value.int IntKind.i64 n112, Value.int IntKind.i64 n113,
  Value.slice p114 k115 k116, Value.slice p117 k118 k119]) ∧ ∃ (R120 : List Own), ∃ (Φ121 : PW), Stable Φ121 ∧ Ctx W w109 (R120 ++ R107) Φ121 ∧ (0 ≤ n51 ∧ n51 < (↑mN : Int)) ∧ ptrK none mP
  fun (k122 k123 : Nat) => ∀ (w124 : World) (R125 : List Own), Ctx W w124 (R120 ++ R125) Φ121 → ∃ (n126 : Int), ∃ (n127 : Int), ∃ (n128 : Int), ∃ (n129 : Int), ∃ (n130 : Int), ∃ (n131 : Int),
  ∃ (n132 : Int), ∃ (c133 : Bool), ∃ (p134 : Option Addr), ∃ (k135 : Nat), ∃ (k136 : Nat), RowAt w124 k122 (k123 + n51.toNat * 9) [Value.int IntKind.i64 n126, Value.int IntKind.i64 n127,
  Value.int IntKind.i64 n128, Value.int IntKind.i64 n129, Value.int IntKind.i64 n130, Value.int IntKind.i64 n131, Value.int IntKind.i64 n132, Value.bool c133, Value.slice p134 k135 k136] ∧ ∀
  (w137 : World) (R138 : List Own), Ctx W w137 (R120 ++ R138) Φ121 → Calls Try.prog F.errataref08_Replica_Hear #[Value.pointer p40, Value.agg #[Value.int IntKind.i64 n126, Value.int
  IntKind.i64 n127, Value.int IntKind.i64 n128, Value.int IntKind.i64 n129, Value.int IntKind.i64 n130, Value.int IntKind.i64 n131, Value.int IntKind.i64 n132, Value.bool c133, Value.slice
  p134 k135 k136]] w137 fun (e139 : Ending) (w140 : World) => ∃ (c141 : Bool), ∃ (n142 : Int), ∃ (n143 : Int), ∃ (n144 : Int), ∃ (p145 : Option Addr), ∃ (k146 : Nat), ∃ (k147 : Nat), ∃ (p148
  : Option Addr), ∃ (k149 : Nat), ∃ (k150 : Nat), e139 = Ending.returned (Value.agg #[Value.bool c141, Value.int IntKind.i64 n142, Value.int IntKind.i64 n143, Value.int IntKind.i64 n144,
  Value.slice p145 k146 k147, Value.slice p148 k149 k150]) ∧ ∃ (R151 : List Own), ∃ (Φ152 : PW), Stable Φ152 ∧ Ctx W w140 (R151 ++ R138) Φ152 ∧ ∀ (w153 : World) (R154 : List Own), Ctx W w153
  (R151 ++ R154) Φ152 → Calls Try.prog F.errataref08_SameOut #[Value.agg #[Value.bool c110, Value.int IntKind.i64 n111, Value.int IntKind.i64 n112, Value.int IntKind.i64 n113, Value.slice
  p114 k115 k116, Value.slice p117 k118 k119], Value.agg #[Value.bool c141, Value.int IntKind.i64 n142, Value.int IntKind.i64 n143, Value.int IntKind.i64 n144, Value.slice p145 k146 k147,
  Value.slice p148 k149 k150]] w153 fun (e155 : Ending) (w156 : World) => ∃ (c157 : Bool), e155 = Ending.returned (Value.bool c157) ∧ ∃ (R158 : List Own), ∃ (Φ159 : PW), Stable Φ159 ∧ Ctx W
  w156 (R158 ++ R154) Φ159 ∧ ∃ (R160 : List Own), ∃ (Φ161 : PW), Stable Φ161 ∧ (∀ (w162 : World) (R163 : List Own), Ctx W w162 (R158 ++ R163) Φ159 → Ctx W w162 (R160 ++ R163) Φ161) ∧ Br
  (!c157) (∃ (R164 : List Own), ∃ (Φ165 : PW), Stable Φ165 ∧ (∀ (w166 : World) (R167 : List Own), Ctx W w166 (R158 ++ R167) Φ159 → Ctx W w166 (R164 ++ R167) Φ165) ∧ ∃ (R168 : List Own), ∃
  (Φ169 : PW), Stable Φ169 ∧ (∀ (w170 : World) (R171 : List Own), Ctx W w170 (R158 ++ R171) Φ159 → Ctx W w170 (R168 ++ R171) Φ169) ∧ ∃ (R172 : List Own), ∃ (Φ173 : PW), Stable Φ173 ∧ (∀ (w174
  : World) (R175 : List Own), Ctx W w174 (R158 ++ R175) Φ159 → Ctx W w174 (R172 ++ R175) Φ173) ∧ ∀ (w176 : World) (R177 : List Own), Ctx W w176 (R158 ++ R177) Φ159 → J (Value.bool false)
  w176) (ptrK none p40 fun (k178 k179 : Nat) => ∃ (n180 : Int), ∃ (n181 : Int), (∀ (w182 : World) (R183 : List Own), Ctx W w182 (R160 ++ R183) Φ161 → ∃ (n184 : Int), ∃ (n185 : Int), RowAt
  w182 k178 (k179 + 1) [Value.int IntKind.i64 n184, Value.int IntKind.i64 n185] ∧ Value.agg #[Value.int IntKind.i64 n184, Value.int IntKind.i64 n185] = Value.agg #[Value.int IntKind.i64 n180,
  Value.int IntKind.i64 n181]) ∧ ∀ (w186 : World) (R187 : List Own), Ctx W w186 (R158 ++ R187) Φ159 → Calls Try.prog F.replica_Replica_Hard #[Value.pointer p33] w186 fun (e188 : Ending) (w189
  : World) => ∃ (n190 : Int), ∃ (n191 : Int), e188 = Ending.returned (Value.agg #[Value.int IntKind.i64 n190, Value.int IntKind.i64 n191]) ∧ ∃ (R192 : List Own), ∃ (Φ193 : PW), Stable Φ193 ∧
  Ctx W w189 (R192 ++ R187) Φ193 ∧ (∀ (w194 : World) (R195 : List Own), Ctx W w194 (R192 ++ R195) Φ193 → Ctx W w194 (R160 ++ R195) Φ161) ∧ ∃ (R196 : List Own), ∃ (Φ197 : PW), Stable Φ197 ∧ (∀
  (w198 : World) (R199 : List Own), Ctx W w198 (R192 ++ R199) Φ193 → Ctx W w198 (R196 ++ R199) Φ197) ∧ okAgg Try.prog 40 = true ∧ Br (!(decide (n190 = n180) && (decide (n191 = n181) &&
  true))) (∃ (R200 : List Own), ∃ (Φ201 : PW), Stable Φ201 ∧ (∀ (w202 : World) (R203 : List Own), Ctx W w202 (R192 ++ R203) Φ193 → Ctx W w202 (R200 ++ R203) Φ201) ∧ ∃ (R204 : List Own), ∃
  (Φ205 : PW), Stable Φ205 ∧ (∀ (w206 : World) (R207 : List Own), Ctx W w206 (R192 ++ R207) Φ193 → Ctx W w206 (R204 ++ R207) Φ205) ∧ ∀ (w208 : World) (R209 : List Own), Ctx W w208 (R192 ++
  R209) Φ193 → J (Value.bool false) w208) (ptrK none p40 fun (k210 k211 : Nat) => ∃ (n212 : Int), (∀ (w213 : World) (R214 : List Own), Ctx W w213 (R196 ++ R214) Φ197 → ∃ (n215 : Int),
  w213.cell? (Addr.mk k210 (k211 + 4) none) = some (Value.int IntKind.i64 n215) ∧ Value.int IntKind.i64 n215 = Value.int IntKind.i64 n212) ∧ ∀ (w216 : World) (R217 : List Own), Ctx W w216
  (R192 ++ R217) Φ193 → Calls Try.prog F.replica_Replica_Role #[Value.pointer p33] w216 fun (e218 : Ending) (w219 : World) => ∃ (n220 : Int), e218 = Ending.returned (Value.int IntKind.i64
  n220) ∧ ∃ (R221 : List Own), ∃ (Φ222 : PW), Stable Φ222 ∧ Ctx W w219 (R221 ++ R217) Φ222 ∧ (∀ (w223 : World) (R224 : List Own), Ctx W w223 (R221 ++ R224) Φ222 → Ctx W w223 (R196 ++ R224)
  Φ197) ∧ ∃ (R225 : List Own), ∃ (Φ226 : PW), Stable Φ226 ∧ (∀ (w227 : World) (R228 : List Own), Ctx W w227 (R221 ++ R228) Φ222 → Ctx W w227 (R225 ++ R228) Φ226) ∧ Br (decide (n220 ≠ n212))
  (∃ (R229 : List Own), ∃ (Φ230 : PW), Stable Φ230 ∧ (∀ (w231 : World) (R232 : List Own), Ctx W w231 (R221 ++ R232) Φ222 → Ctx W w231 (R229 ++ R232) Φ230) ∧ ∀ (w233 : World) (R234 : List
  Own), Ctx W w233 (R221 ++ R234) Φ222 → J (Value.bool false) w233) (ptrK none p40 fun (k235 k236 : Nat) => ∃ (n237 : Int), (∀ (w238 : World) (R239 : List Own), Ctx W w238 (R225 ++ R239) Φ226
  → ∃ (n240 : Int), w238.cell? (Addr.mk k235 (k236 + 5) none) = some (Value.int IntKind.i64 n240) ∧ Value.int IntKind.i64 n240 = Value.int IntKind.i64 n237) ∧ ∀ (w241 : World) (R242 : List
  Own), Ctx W w241 (R221 ++ R242) Φ222 → Calls Try.prog F.replica_Replica_Commit #[Value.pointer p33] w241 fun (e243 : Ending) (w244 : World) => ∃ (n245 : Int), e243 = Ending.returned
  (Value.int IntKind.i64 n245) ∧ ∃ (R246 : List Own), ∃ (Φ247 : PW), Stable Φ247 ∧ Ctx W w244 (R246 ++ R242) Φ247 ∧ (∀ (w248 : World) (R249 : List Own), Ctx W w248 (R246 ++ R249) Φ247 → Ctx W
  w248 (R225 ++ R249) Φ226) ∧ ∃ (R250 : List Own), ∃ (Φ251 : PW), Stable Φ251 ∧ (∀ (w252 : World) (R253 : List Own), Ctx W w252 (R246 ++ R253) Φ247 → Ctx W w252 (R250 ++ R253) Φ251) ∧ Br
  (decide (n245 ≠ n237)) (∀ (w254 : World) (R255 : List Own), Ctx W w254 (R246 ++ R255) Φ247 → J (Value.bool false) w254) (ptrK none p40 fun (k256 k257 : Nat) => ∃ (p258 : Option Addr), ∃
  (k259 : Nat), ∃ (k260 : Nat), (∀ (w261 : World) (R262 : List Own), Ctx W w261 (R250 ++ R262) Φ251 → ∃ (p263 : Option Addr), ∃ (k264 : Nat), ∃ (k265 : Nat), w261.cell? (Addr.mk k256 (k257 +
  3) none) = some (Value.slice p263 k264 k265) ∧ Value.slice p263 k264 k265 = Value.slice p258 k259 k260) ∧ ∀ (w266 : World) (R267 : List Own), Ctx W w266 (R246 ++ R267) Φ247 → Calls Try.prog
  F.replica_Replica_Log #[Value.pointer p33] w266 fun (e268 : Ending) (w269 : World) => ∃ (p270 : Option Addr), ∃ (k271 : Nat), ∃ (k272 : Nat), e268 = Ending.returned (Value.slice p270 k271
  k272) ∧ ∃ (R273 : List Own), ∃ (Φ274 : PW), Stable Φ274 ∧ Ctx W w269 (R273 ++ R267) Φ274 ∧ (∀ (w275 : World) (R276 : List Own), Ctx W w275 (R273 ++ R276) Φ274 → Ctx W w275 (R250 ++ R276)
  Φ251) ∧ ∀ (w277 : World) (R278 : List Own), Ctx W w277 (R273 ++ R278) Φ274 → Calls Try.prog F.errataref08_SameRecs #[Value.slice p270 k271 k272, Value.slice p258 k259 k260] w277 fun (e279 :
  Ending) (w280 : World) => ∃ (c281 : Bool), e279 = Ending.returned (Value.bool c281) ∧ ∃ (R282 : List Own), ∃ (Φ283 : PW), Stable Φ283 ∧ Ctx W w280 (R282 ++ R278) Φ283 ∧ Br (!c281) (∀ (w284
  : World) (R285 : List Own), Ctx W w284 (R282 ++ R285) Φ283 → J (Value.bool false) w284) (I64 (n51 + 1) ∧ ∃ (R286 : List Own), ∃ (Φ287 : PW), ∃ (k288 : Nat), Stable Φ287 ∧ (∀ (w289 : World)
  (R290 : List Own), Ctx W w289 (R282 ++ R290) Φ283 → Ctx W w289 (R286 ++ R290) Φ287) ∧ I45 (n51 + 1) R286 Φ287 k288 ∧ k288 < k54)))))))) (Br (decide (n62 < 12)) (∀ (w291 : World) (R292 :
  List Own), Ctx W w291 (R52 ++ R292) I53 → Calls Try.prog F.replica_Replica_Tick #[Value.pointer p33] w291 fun (e293 : Ending) (w294 : World) => ∃ (c295 : Bool), ∃ (n296 : Int), ∃ (n297 :
  Int), ∃ (n298 : Int), ∃ (p299 : Option Addr), ∃ (k300 : Nat), ∃ (k301 : Nat), ∃ (p302 : Option Addr), ∃ (k303 : Nat), ∃ (k304 : Nat), e293 = Ending.returned (Value.agg #[Value.bool c295,
  Value.int IntKind.i64 n296, Value.int IntKind.i64 n297, Value.int IntKind.i64 n298, Value.slice p299 k300 k301, Value.slice p302 k303 k304]) ∧ ∃ (R305 : List Own), ∃ (Φ306 : PW), Stable
  Φ306 ∧ Ctx W w294 (R305 ++ R292) Φ306 ∧ ∀ (w307 : World) (R308 : List Own), Ctx W w307 (R305 ++ R308) Φ306 → Calls Try.prog F.errataref08_Replica_Tick #[Value.pointer p40] w307 fun (e309 :
  Ending) (w310 : World) => ∃ (c311 : Bool), ∃ (n312 : Int), ∃ (n313 : Int), ∃ (n314 : Int), ∃ (p315 : Option Addr), ∃ (k316 : Nat), ∃ (k317 : Nat), ∃ (p318 : Option Addr), ∃ (k319 : Nat), ∃
  (k320 : Nat), e309 = Ending.returned (Value.agg #[Value.bool c311, Value.int IntKind.i64 n312, Value.int IntKind.i64 n313, Value.int IntKind.i64 n314, Value.slice p315 k316 k317,
  Value.slice p318 k319 k320]) ∧ ∃ (R321 : List Own), ∃ (Φ322 : PW), Stable Φ322 ∧ Ctx W w310 (R321 ++ R308) Φ322 ∧ ∀ (w323 : World) (R324 : List Own), Ctx W w323 (R321 ++ R324) Φ322 → Calls
  Try.prog F.errataref08_SameOut #[Value.agg #[Value.bool c295, Value.int IntKind.i64 n296, Value.int IntKind.i64 n297, Value.int IntKind.i64 n298, Value.slice p299 k300 k301, Value.slice
  p302 k303 k304], Value.agg #[Value.bool c311, Value.int IntKind.i64 n312, Value.int IntKind.i64 n313, Value.int IntKind.i64 n314, Value.slice p315 k316 k317, Value.slice p318 k319 k320]]
  w323 fun (e325 : Ending) (w326 : World) => ∃ (c327 : Bool), e325 = Ending.returned (Value.bool c327) ∧ ∃ (R328 : List Own), ∃ (Φ329 : PW), Stable Φ329 ∧ Ctx W w326 (R328 ++ R324) Φ329 ∧ ∃
  (R330 : List Own), ∃ (Φ331 : PW), Stable Φ331 ∧ (∀ (w332 : World) (R333 : List Own), Ctx W w332 (R328 ++ R333) Φ329 → Ctx W w332 (R330 ++ R333) Φ331) ∧ Br (!c327) (∃ (R334 : List Own), ∃
  (Φ335 : PW), Stable Φ335 ∧ (∀ (w336 : World) (R337 : List Own), Ctx W w336 (R328 ++ R337) Φ329 → Ctx W w336 (R334 ++ R337) Φ335) ∧ ∃ (R338 : List Own), ∃ (Φ339 : PW), Stable Φ339 ∧ (∀ (w340
  : World) (R341 : List Own), Ctx W w340 (R328 ++ R341) Φ329 → Ctx W w340 (R338 ++ R341) Φ339) ∧ ∃ (R342 : List Own), ∃ (Φ343 : PW), Stable Φ343 ∧ (∀ (w344 : World) (R345 : List Own), Ctx W
  w344 (R328 ++ R345) Φ329 → Ctx W w344 (R342 ++ R345) Φ343) ∧ ∀ (w346 : World) (R347 : List Own), Ctx W w346 (R328 ++ R347) Φ329 → J (Value.bool false) w346) (ptrK none p40 fun (k348 k349 :
  Nat) => ∃ (n350 : Int), ∃ (n351 : Int), (∀ (w352 : World) (R353 : List Own), Ctx W w352 (R330 ++ R353) Φ331 → ∃ (n354 : Int), ∃ (n355 : Int), RowAt w352 k348 (k349 + 1) [Value.int
  IntKind.i64 n354, Value.int IntKind.i64 n355] ∧ Value.agg #[Value.int IntKind.i64 n354, Value.int IntKind.i64 n355] = Value.agg #[Value.int IntKind.i64 n350, Value.int IntKind.i64 n351]) ∧
  ∀ (w356 : World) (R357 : List Own), Ctx W w356 (R328 ++ R357) Φ329 → Calls Try.prog F.replica_Replica_Hard #[Value.pointer p33] w356 fun (e358 : Ending) (w359 : World) => ∃ (n360 : Int), ∃
  (n361 : Int), e358 = Ending.returned (Value.agg #[Value.int IntKind.i64 n360, Value.int IntKind.i64 n361]) ∧ ∃ (R362 : List Own), ∃ (Φ363 : PW), Stable Φ363 ∧ Ctx W w359 (R362 ++ R357) Φ363
  ∧ (∀ (w364 : World) (R365 : List Own), Ctx W w364 (R362 ++ R365) Φ363 → Ctx W w364 (R330 ++ R365) Φ331) ∧ ∃ (R366 : List Own), ∃ (Φ367 : PW), Stable Φ367 ∧ (∀ (w368 : World) (R369 : List
  Own), Ctx W w368 (R362 ++ R369) Φ363 → Ctx W w368 (R366 ++ R369) Φ367) ∧ okAgg Try.prog 40 = true ∧ Br (!(decide (n360 = n350) && (decide (n361 = n351) && true))) (∃ (R370 : List Own), ∃
  (Φ371 : PW), Stable Φ371 ∧ (∀ (w372 : World) (R373 : List Own), Ctx W w372 (R362 ++ R373) Φ363 → Ctx W w372 (R370 ++ R373) Φ371) ∧ ∃ (R374 : List Own), ∃ (Φ375 : PW), Stable Φ375 ∧ (∀ (w376
  : World) (R377 : List Own), Ctx W w376 (R362 ++ R377) Φ363 → Ctx W w376 (R374 ++ R377) Φ375) ∧ ∀ (w378 : World) (R379 : List Own), Ctx W w378 (R362 ++ R379) Φ363 → J (Value.bool false)
  w378) (ptrK none p40 fun (k380 k381 : Nat) => ∃ (n382 : Int), (∀ (w383 : World) (R384 : List Own), Ctx W w383 (R366 ++ R384) Φ367 → ∃ (n385 : Int), w383.cell? (Addr.mk k380 (k381 + 4) none)
  = some (Value.int IntKind.i64 n385) ∧ Value.int IntKind.i64 n385 = Value.int IntKind.i64 n382) ∧ ∀ (w386 : World) (R387 : List Own), Ctx W w386 (R362 ++ R387) Φ363 → Calls Try.prog
  F.replica_Replica_Role #[Value.pointer p33] w386 fun (e388 : Ending) (w389 : World) => ∃ (n390 : Int), e388 = Ending.returned (Value.int IntKind.i64 n390) ∧ ∃ (R391 : List Own), ∃ (Φ392 :
  PW), Stable Φ392 ∧ Ctx W w389 (R391 ++ R387) Φ392 ∧ (∀ (w393 : World) (R394 : List Own), Ctx W w393 (R391 ++ R394) Φ392 → Ctx W w393 (R366 ++ R394) Φ367) ∧ ∃ (R395 : List Own), ∃ (Φ396 :
  PW), Stable Φ396 ∧ (∀ (w397 : World) (R398 : List Own), Ctx W w397 (R391 ++ R398) Φ392 → Ctx W w397 (R395 ++ R398) Φ396) ∧ Br (decide (n390 ≠ n382)) (∃ (R399 : List Own), ∃ (Φ400 : PW),
  Stable Φ400 ∧ (∀ (w401 : World) (R402 : List Own), Ctx W w401 (R391 ++ R402) Φ392 → Ctx W w401 (R399 ++ R402) Φ400) ∧ ∀ (w403 : World) (R404 : List Own), Ctx W w403 (R391 ++ R404) Φ392 → J
  (Value.bool false) w403) (ptrK none p40 fun (k405 k406 : Nat) => ∃ (n407 : Int), (∀ (w408 : World) (R409 : List Own), Ctx W w408 (R395 ++ R409) Φ396 → ∃ (n410 : Int), w408.cell? (Addr.mk
  k405 (k406 + 5) none) = some (Value.int IntKind.i64 n410) ∧ Value.int IntKind.i64 n410 = Value.int IntKind.i64 n407) ∧ ∀ (w411 : World) (R412 : List Own), Ctx W w411 (R391 ++ R412) Φ392 →
  Calls Try.prog F.replica_Replica_Commit #[Value.pointer p33] w411 fun (e413 : Ending) (w414 : World) => ∃ (n415 : Int), e413 = Ending.returned (Value.int IntKind.i64 n415) ∧ ∃ (R416 : List
  Own), ∃ (Φ417 : PW), Stable Φ417 ∧ Ctx W w414 (R416 ++ R412) Φ417 ∧ (∀ (w418 : World) (R419 : List Own), Ctx W w418 (R416 ++ R419) Φ417 → Ctx W w418 (R395 ++ R419) Φ396) ∧ ∃ (R420 : List
  Own), ∃ (Φ421 : PW), Stable Φ421 ∧ (∀ (w422 : World) (R423 : List Own), Ctx W w422 (R416 ++ R423) Φ417 → Ctx W w422 (R420 ++ R423) Φ421) ∧ Br (decide (n415 ≠ n407)) (∀ (w424 : World) (R425
  : List Own), Ctx W w424 (R416 ++ R425) Φ417 → J (Value.bool false) w424) (ptrK none p40 fun (k426 k427 : Nat) => ∃ (p428 : Option Addr), ∃ (k429 : Nat), ∃ (k430 : Nat), (∀ (w431 : World)
  (R432 : List Own), Ctx W w431 (R420 ++ R432) Φ421 → ∃ (p433 : Option Addr), ∃ (k434 : Nat), ∃ (k435 : Nat), w431.cell? (Addr.mk k426 (k427 + 3) none) = some (Value.slice p433 k434 k435) ∧
  Value.slice p433 k434 k435 = Value.slice p428 k429 k430) ∧ ∀ (w436 : World) (R437 : List Own), Ctx W w436 (R416 ++ R437) Φ417 → Calls Try.prog F.replica_Replica_Log #[Value.pointer p33]
  w436 fun (e438 : Ending) (w439 : World) => ∃ (p440 : Option Addr), ∃ (k441 : Nat), ∃ (k442 : Nat), e438 = Ending.returned (Value.slice p440 k441 k442) ∧ ∃ (R443 : List Own), ∃ (Φ444 : PW),
  Stable Φ444 ∧ Ctx W w439 (R443 ++ R437) Φ444 ∧ (∀ (w445 : World) (R446 : List Own), Ctx W w445 (R443 ++ R446) Φ444 → Ctx W w445 (R420 ++ R446) Φ421) ∧ ∀ (w447 : World) (R448 : List Own),
  Ctx W w447 (R443 ++ R448) Φ444 → Calls Try.prog F.errataref08_SameRecs #[Value.slice p440 k441 k442, Value.slice p428 k429 k430] w447 fun (e449 : Ending) (w450 : World) => ∃ (c451 : Bool),
  e449 = Ending.returned (Value.bool c451) ∧ ∃ (R452 : List Own), ∃ (Φ453 : PW), Stable Φ453 ∧ Ctx W w450 (R452 ++ R448) Φ453 ∧ Br (!c451) (∀ (w454 : World) (R455 : List Own), Ctx W w454
  (R452 ++ R455) Φ453 → J (Value.bool false) w454) (I64 (n51 + 1) ∧ ∃ (R456 : List Own), ∃ (Φ457 : PW), ∃ (k458 : Nat), Stable Φ457 ∧ (∀ (w459 : World) (R460 : List Own), Ctx W w459 (R452 ++
  R460) Φ453 → Ctx W w459 (R456 ++ R460) Φ457) ∧ I45 (n51 + 1) R456 Φ457 k458 ∧ k458 < k54)))))) ((0 ≤ n51 ∧ n51 < (↑lN : Int)) ∧ ptrK none lP fun (k461 k462 : Nat) => ∀ (w463 : World) (R464
  : List Own), Ctx W w463 (R52 ++ R464) I53 → ∃ (s465 : ByteArray), w463.cell? (Addr.mk k461 (k462 + n51.toNat * 4 + 3) none) = some (Value.string s465) ∧ ∀ (w466 : World) (R467 : List Own),
  Ctx W w466 (R52 ++ R467) I53 → Calls Try.prog F.replica_Replica_Propose #[Value.pointer p33, Value.string s465] w466 fun (e468 : Ending) (w469 : World) => ∃ (n470 : Int), ∃ (n471 : Int), ∃
  (c472 : Bool), ∃ (n473 : Int), ∃ (n474 : Int), ∃ (n475 : Int), ∃ (p476 : Option Addr), ∃ (k477 : Nat), ∃ (k478 : Nat), ∃ (p479 : Option Addr), ∃ (k480 : Nat), ∃ (k481 : Nat), e468 =
  Ending.returned (Value.tuple #[Value.int IntKind.i64 n470, Value.int IntKind.i64 n471, Value.agg #[Value.bool c472, Value.int IntKind.i64 n473, Value.int IntKind.i64 n474, Value.int
  IntKind.i64 n475, Value.slice p476 k477 k478, Value.slice p479 k480 k481]]) ∧ ∃ (R482 : List Own), ∃ (Φ483 : PW), Stable Φ483 ∧ Ctx W w469 (R482 ++ R467) Φ483 ∧ ∀ (b : Nat), (0 ≤ n51 ∧ n51
  < (↑lN : Int)) ∧ ptrK none lP fun (k484 k485 : Nat) => ∀ (w486 : World) (R487 : List Own), Ctx W w486 (R482 ++ R487) Φ483 → ∃ (s488 : ByteArray), w486.cell? (Addr.mk k484 (k485 + n51.toNat
  * 4 + 3) none) = some (Value.string s488) ∧ ∀ (w489 : World) (R490 : List Own), Ctx W w489 (R482 ++ R490) Φ483 → Calls Try.prog F.errataref08_Replica_Propose #[Value.pointer p40,
  Value.string s488] w489 fun (e491 : Ending) (w492 : World) => ∃ (n493 : Int), ∃ (n494 : Int), ∃ (c495 : Bool), ∃ (n496 : Int), ∃ (n497 : Int), ∃ (n498 : Int), ∃ (p499 : Option Addr), ∃
  (k500 : Nat), ∃ (k501 : Nat), ∃ (p502 : Option Addr), ∃ (k503 : Nat), ∃ (k504 : Nat), e491 = Ending.returned (Value.tuple #[Value.int IntKind.i64 n493, Value.int IntKind.i64 n494, Value.agg
  #[Value.bool c495, Value.int IntKind.i64 n496, Value.int IntKind.i64 n497, Value.int IntKind.i64 n498, Value.slice p499 k500 k501, Value.slice p502 k503 k504]]) ∧ ∃ (R505 : List Own), ∃
  (Φ506 : PW), Stable Φ506 ∧ Ctx W w492 (R505 ++ R490) Φ506 ∧ ∀ (b : Nat) (w507 : World) (R508 : List Own), Ctx W w507 (R505 ++ R508) Φ506 → Br (decide (n470 ≠ n493) || decide (n471 ≠ n494))
  (∀ (w509 : World) (R510 : List Own), Ctx W w509 (R505 ++ R510) Φ506 → J (Value.bool false) w509) (∀ (w511 : World) (R512 : List Own), Ctx W w511 (R505 ++ R512) Φ506 → Calls Try.prog
  F.errataref08_SameOut #[Value.agg #[Value.bool c472, Value.int IntKind.i64 n473, Value.int IntKind.i64 n474, Value.int IntKind.i64 n475, Value.slice p476 k477 k478, Value.slice p479 k480
  k481], Value.agg #[Value.bool c495, Value.int IntKind.i64 n496, Value.int IntKind.i64 n497, Value.int IntKind.i64 n498, Value.slice p499 k500 k501, Value.slice p502 k503 k504]] w511 fun
  (e513 : Ending) (w514 : World) => ∃ (c515 : Bool), e513 = Ending.returned (Value.bool c515) ∧ ∃ (R516 : List Own), ∃ (Φ517 : PW), Stable Φ517 ∧ Ctx W w514 (R516 ++ R512) Φ517 ∧ ∃ (R518 :
  List Own), ∃ (Φ519 : PW), Stable Φ519 ∧ (∀ (w520 : World) (R521 : List Own), Ctx W w520 (R516 ++ R521) Φ517 → Ctx W w520 (R518 ++ R521) Φ519) ∧ Br (!c515) (∃ (R522 : List Own), ∃ (Φ523 :
  PW), Stable Φ523 ∧ (∀ (w524 : World) (R525 : List Own), Ctx W w524 (R516 ++ R525) Φ517 → Ctx W w524 (R522 ++ R525) Φ523) ∧ ∃ (R526 : List Own), ∃ (Φ527 : PW), Stable Φ527 ∧ (∀ (w528 :
  World) (R529 : List Own), Ctx W w528 (R516 ++ R529) Φ517 → Ctx W w528 (R526 ++ R529) Φ527) ∧ ∃ (R530 : List Own), ∃ (Φ531 : PW), Stable Φ531 ∧ (∀ (w532 : World) (R533 : List Own), Ctx W
  w532 (R516 ++ R533) Φ517 → Ctx W w532 (R530 ++ R533) Φ531) ∧ ∀ (w534 : World) (R535 : List Own), Ctx W w534 (R516 ++ R535) Φ517 → J (Value.bool false) w534) (ptrK none p40 fun (k536 k537 :
  Nat) => ∃ (n538 : Int), ∃ (n539 : Int), (∀ (w540 : World) (R541 : List Own), Ctx W w540 (R518 ++ R541) Φ519 → ∃ (n542 : Int), ∃ (n543 : Int), RowAt w540 k536 (k537 + 1) [Value.int
  IntKind.i64 n542, Value.int IntKind.i64 n543] ∧ Value.agg #[Value.int IntKind.i64 n542, Value.int IntKind.i64 n543] = Value.agg #[Value.int IntKind.i64 n538, Value.int IntKind.i64 n539]) ∧
  ∀ (w544 : World) (R545 : List Own), Ctx W w544 (R516 ++ R545) Φ517 → Calls Try.prog F.replica_Replica_Hard #[Value.pointer p33] w544 fun (e546 : Ending) (w547 : World) => ∃ (n548 : Int), ∃
  (n549 : Int), e546 = Ending.returned (Value.agg #[Value.int IntKind.i64 n548, Value.int IntKind.i64 n549]) ∧ ∃ (R550 : List Own), ∃ (Φ551 : PW), Stable Φ551 ∧ Ctx W w547 (R550 ++ R545) Φ551
  ∧ (∀ (w552 : World) (R553 : List Own), Ctx W w552 (R550 ++ R553) Φ551 → Ctx W w552 (R518 ++ R553) Φ519) ∧ ∃ (R554 : List Own), ∃ (Φ555 : PW), Stable Φ555 ∧ (∀ (w556 : World) (R557 : List
  Own), Ctx W w556 (R550 ++ R557) Φ551 → Ctx W w556 (R554 ++ R557) Φ555) ∧ okAgg Try.prog 40 = true ∧ Br (!(decide (n548 = n538) && (decide (n549 = n539) && true))) (∃ (R558 : List Own), ∃
  (Φ559 : PW), Stable Φ559 ∧ (∀ (w560 : World) (R561 : List Own), Ctx W w560 (R550 ++ R561) Φ551 → Ctx W w560 (R558 ++ R561) Φ559) ∧ ∃ (R562 : List Own), ∃ (Φ563 : PW), Stable Φ563 ∧ (∀ (w564
  : World) (R565 : List Own), Ctx W w564 (R550 ++ R565) Φ551 → Ctx W w564 (R562 ++ R565) Φ563) ∧ ∀ (w566 : World) (R567 : List Own), Ctx W w566 (R550 ++ R567) Φ551 → J (Value.bool false)
  w566) (ptrK none p40 fun (k568 k569 : Nat) => ∃ (n570 : Int), (∀ (w571 : World) (R572 : List Own), Ctx W w571 (R554 ++ R572) Φ555 → ∃ (n573 : Int), w571.cell? (Addr.mk k568 (k569 + 4) none)
  = some (Value.int IntKind.i64 n573) ∧ Value.int IntKind.i64 n573 = Value.int IntKind.i64 n570) ∧ ∀ (w574 : World) (R575 : List Own), Ctx W w574 (R550 ++ R575) Φ551 → Calls Try.prog
  F.replica_Replica_Role #[Value.pointer p33] w574 fun (e576 : Ending) (w577 : World) => ∃ (n578 : Int), e576 = Ending.returned (Value.int IntKind.i64 n578) ∧ ∃ (R579 : List Own), ∃ (Φ580 :
  PW), Stable Φ580 ∧ Ctx W w577 (R579 ++ R575) Φ580 ∧ (∀ (w581 : World) (R582 : List Own), Ctx W w581 (R579 ++ R582) Φ580 → Ctx W w581 (R554 ++ R582) Φ555) ∧ ∃ (R583 : List Own), ∃ (Φ584 :
  PW), Stable Φ584 ∧ (∀ (w585 : World) (R586 : List Own), Ctx W w585 (R579 ++ R586) Φ580 → Ctx W w585 (R583 ++ R586) Φ584) ∧ Br (decide (n578 ≠ n570)) (∃ (R587 : List Own), ∃ (Φ588 : PW),
  Stable Φ588 ∧ (∀ (w589 : World) (R590 : List Own), Ctx W w589 (R579 ++ R590) Φ580 → Ctx W w589 (R587 ++ R590) Φ588) ∧ ∀ (w591 : World) (R592 : List Own), Ctx W w591 (R579 ++ R592) Φ580 → J
  (Value.bool false) w591) (ptrK none p40 fun (k593 k594 : Nat) => ∃ (n595 : Int), (∀ (w596 : World) (R597 : List Own), Ctx W w596 (R583 ++ R597) Φ584 → ∃ (n598 : Int), w596.cell? (Addr.mk
  k593 (k594 + 5) none) = some (Value.int IntKind.i64 n598) ∧ Value.int IntKind.i64 n598 = Value.int IntKind.i64 n595) ∧ ∀ (w599 : World) (R600 : List Own), Ctx W w599 (R579 ++ R600) Φ580 →
  Calls Try.prog F.replica_Replica_Commit #[Value.pointer p33] w599 fun (e601 : Ending) (w602 : World) => ∃ (n603 : Int), e601 = Ending.returned (Value.int IntKind.i64 n603) ∧ ∃ (R604 : List
  Own), ∃ (Φ605 : PW), Stable Φ605 ∧ Ctx W w602 (R604 ++ R600) Φ605 ∧ (∀ (w606 : World) (R607 : List Own), Ctx W w606 (R604 ++ R607) Φ605 → Ctx W w606 (R583 ++ R607) Φ584) ∧ ∃ (R608 : List
  Own), ∃ (Φ609 : PW), Stable Φ609 ∧ (∀ (w610 : World) (R611 : List Own), Ctx W w610 (R604 ++ R611) Φ605 → Ctx W w610 (R608 ++ R611) Φ609) ∧ Br (decide (n603 ≠ n595)) (∀ (w612 : World) (R613
  : List Own), Ctx W w612 (R604 ++ R613) Φ605 → J (Value.bool false) w612) (ptrK none p40 fun (k614 k615 : Nat) => ∃ (p616 : Option Addr), ∃ (k617 : Nat), ∃ (k618 : Nat), (∀ (w619 : World)
  (R620 : List Own), Ctx W w619 (R608 ++ R620) Φ609 → ∃ (p621 : Option Addr), ∃ (k622 : Nat), ∃ (k623 : Nat), w619.cell? (Addr.mk k614 (k615 + 3) none) = some (Value.slice p621 k622 k623) ∧
  Value.slice p621 k622 k623 = Value.slice p616 k617 k618) ∧ ∀ (w624 : World) (R625 : List Own), Ctx W w624 (R604 ++ R625) Φ605 → Calls Try.prog F.replica_Replica_Log #[Value.pointer p33]
  w624 fun (e626 : Ending) (w627 : World) => ∃ (p628 : Option Addr), ∃ (k629 : Nat), ∃ (k630 : Nat), e626 = Ending.returned (Value.slice p628 k629 k630) ∧ ∃ (R631 : List Own), ∃ (Φ632 : PW),
  Stable Φ632 ∧ Ctx W w627 (R631 ++ R625) Φ632 ∧ (∀ (w633 : World) (R634 : List Own), Ctx W w633 (R631 ++ R634) Φ632 → Ctx W w633 (R608 ++ R634) Φ609) ∧ ∀ (w635 : World) (R636 : List Own),
  Ctx W w635 (R631 ++ R636) Φ632 → Calls Try.prog F.errataref08_SameRecs #[Value.slice p628 k629 k630, Value.slice p616 k617 k618] w635 fun (e637 : Ending) (w638 : World) => ∃ (c639 : Bool),
  e637 = Ending.returned (Value.bool c639) ∧ ∃ (R640 : List Own), ∃ (Φ641 : PW), Stable Φ641 ∧ Ctx W w638 (R640 ++ R636) Φ641 ∧ Br (!c639) (∀ (w642 : World) (R643 : List Own), Ctx W w642
  (R640 ++ R643) Φ641 → J (Value.bool false) w642) (I64 (n51 + 1) ∧ ∃ (R644 : List Own), ∃ (Φ645 : PW), ∃ (k646 : Nat), Stable Φ645 ∧ (∀ (w647 : World) (R648 : List Own), Ctx W w647 (R640 ++
  R648) Φ641 → Ctx W w647 (R644 ++ R648) Φ645) ∧ I45 (n51 + 1) R644 Φ645 k646 ∧ k646 < k54))))))))) (∀ (w649 : World) (R650 : List Own), Ctx W w649 (R52 ++ R650) I53 → J (Value.bool c4)
  w649))))))

theorem Berratalaw08_ReplicaTells_run (id : Int) (h0 : Int) (h1 : Int) (logP : Option Addr) (logN logC : Nat) (lP : Option Addr) (lN lC : Nat) (mP : Option Addr) (mN mC : Nat) {W w : World} {R : List Own} {Φ : PW} [Stable Φ] {J : Value → World → Prop} (c : Ctx W w R Φ) (h : Berratalaw08_ReplicaTells id h0 h1 logP logN logC lP lN lC mP mN mC W R Φ J) : Calls Try.prog F.erratalaw08_ReplicaTells #[.int .i64 id, .agg #[.int .i64 h0, .int .i64 h1], .slice logP logN logC, .slice lP lN lC, .slice mP mN mC] w fun e w' => ∃ v, e = .returned v ∧ J v w' :=
  vcFS_sound (H := { keep := some [0, 2, 3, 4, 6, 10, 11, 12, 13, 14, 15, 16, 17, 18, 19, 20, 21, 22, 23, 42, 56, 68, 106, 109, 133, 147, 194], track := [6, 15, 16, 20, 23], stages := [(28, [.stage [0, 1] (some 2), .held [(3, true), (4, true), (5, true), (7, true), (8, true), (9, true), (10, true), (6, false)], .held [(11, true), (12, true), (13, true), (14, true), (16, true), (17, true), (18, true), (19, true), (15, false)], .held [(20, true), (21, true), (22, true), (23, true), (25, true), (26, true), (27, true), (28, true), (24, false)], .held [(29, true), (30, true), (31, true), (32, true), (34, true), (35, true), (36, true), (37, true), (33, false)], .stage [] (some 38), .stage [39, 40] none])], split := [2, 21], loops := [(9, [(14, .one (.int .i64))], [])] }) (by rw [show vcFS Try.prog W { keep := some [0, 2, 3, 4, 6, 10, 11, 12, 13, 14, 15, 16, 17, 18, 19, 20, 21, 22, 23, 42, 56, 68, 106, 109, 133, 147, 194], track := [6, 15, 16, 20, 23], stages := [(28, [.stage [0, 1] (some 2), .held [(3, true), (4, true), (5, true), (7, true), (8, true), (9, true), (10, true), (6, false)], .held [(11, true), (12, true), (13, true), (14, true), (16, true), (17, true), (18, true), (19, true), (15, false)], .held [(20, true), (21, true), (22, true), (23, true), (25, true), (26, true), (27, true), (28, true), (24, false)], .held [(29, true), (30, true), (31, true), (32, true), (34, true), (35, true), (36, true), (37, true), (33, false)], .stage [] (some 38), .stage [39, 40] none])], split := [2, 21], loops := [(9, [(14, .one (.int .i64))], [])] } F.erratalaw08_ReplicaTells #[.int .i64 id, .agg #[.int .i64 h0, .int .i64 h1], .slice logP logN logC, .slice lP lN lC, .slice mP mN mC] R Φ J = Berratalaw08_ReplicaTells id h0 h1 logP logN logC lP lN lC mP mN mC W R Φ J by kernel_rfl]; exact h) c

/-- erratalaw08.small -/
-- known blocks: 3 one, 4 two, 5 three, 8 four, 9 five
def Berratalaw08_small  (W : World) (R : List Own) (Φ : PW) (J : Value → World → Prop) : Prop :=
  ∀ (w0 : World) (R1 : List Own), Ctx W w0 (R ++ R1) Φ → Calls Try.prog F.replica_New #[Value.int IntKind.i64 0, Value.agg #[Value.int IntKind.i64 0, Value.int IntKind.i64 (-1)], Value.slice
  none 0 0] w0 fun (e2 : Ending) (w3 : World) => ∃ (p4 : Option Addr), e2 = Ending.returned (Value.pointer p4) ∧ ∃ (R5 : List Own), ∃ (Φ6 : PW), Stable Φ6 ∧ Ctx W w3 (R5 ++ R1) Φ6 ∧ ∀ (w7 :
  World) (R8 : List Own), Ctx W w7 (R5 ++ R8) Φ6 → Calls Try.prog F.replica_New #[Value.int IntKind.i64 1, Value.agg #[Value.int IntKind.i64 0, Value.int IntKind.i64 (-1)], Value.slice none 0
  0] w7 fun (e9 : Ending) (w10 : World) => ∃ (p11 : Option Addr), e9 = Ending.returned (Value.pointer p11) ∧ ∃ (R12 : List Own), ∃ (Φ13 : PW), Stable Φ13 ∧ Ctx W w10 (R12 ++ R8) Φ13 ∧ ∀ (w14
  : World) (R15 : List Own), Ctx W w14 (R12 ++ R15) Φ13 → Br (p4.isNone || p11.isNone) (∀ (w16 : World) (R17 : List Own), Ctx W w16 (R12 ++ R17) Φ13 → J (Value.bool false) w16) (∀ (w18 :
  World) (R19 : List Own), Ctx W w18 (R12 ++ R19) Φ13 → Calls Try.prog F.replica_Replica_Tick #[Value.pointer p4] w18 fun (e20 : Ending) (w21 : World) => ∃ (c22 : Bool), ∃ (n23 : Int), ∃ (n24
  : Int), ∃ (n25 : Int), ∃ (p26 : Option Addr), ∃ (k27 : Nat), ∃ (k28 : Nat), ∃ (p29 : Option Addr), ∃ (k30 : Nat), ∃ (k31 : Nat), e20 = Ending.returned (Value.agg #[Value.bool c22, Value.int
  IntKind.i64 n23, Value.int IntKind.i64 n24, Value.int IntKind.i64 n25, Value.slice p26 k27 k28, Value.slice p29 k30 k31]) ∧ ∃ (R32 : List Own), ∃ (Φ33 : PW), Stable Φ33 ∧ Ctx W w21 (R32 ++
  R19) Φ33 ∧ ∀ (b : Nat), Br (decide ((↑k30 : Int) ≠ 2)) (∀ (w34 : World) (R35 : List Own), Ctx W w34 (R32 ++ R35) Φ33 → J (Value.bool false) w34) (Br (!c22) (∀ (w36 : World) (R37 : List
  Own), Ctx W w36 (R32 ++ R37) Φ33 → J (Value.bool false) w36) (okAgg Try.prog 40 = true ∧ Br (!(decide (n23 = 1) && (decide (n24 = 0) && true))) (∀ (w38 : World) (R39 : List Own), Ctx W w38
  (R32 ++ R39) Φ33 → J (Value.bool false) w38) (((0 : Int) ≤ 0 ∧ 0 < (↑k30 : Int)) ∧ ptrK none p29 fun (k40 k41 : Nat) => ∀ (w42 : World) (R43 : List Own), Ctx W w42 (R32 ++ R43) Φ33 → ∃ (n44
  : Int), ∃ (n45 : Int), ∃ (n46 : Int), ∃ (n47 : Int), ∃ (n48 : Int), ∃ (n49 : Int), ∃ (n50 : Int), ∃ (c51 : Bool), ∃ (p52 : Option Addr), ∃ (k53 : Nat), ∃ (k54 : Nat), RowAt w42 k40 k41
  [Value.int IntKind.i64 n44, Value.int IntKind.i64 n45, Value.int IntKind.i64 n46, Value.int IntKind.i64 n47, Value.int IntKind.i64 n48, Value.int IntKind.i64 n49, Value.int IntKind.i64 n50,
  Value.bool c51, Value.slice p52 k53 k54] ∧ ∀ (w55 : World) (R56 : List Own), Ctx W w55 (R32 ++ R56) Φ33 → Calls Try.prog F.replica_Replica_Hear #[Value.pointer p11, Value.agg #[Value.int
  IntKind.i64 n44, Value.int IntKind.i64 n45, Value.int IntKind.i64 n46, Value.int IntKind.i64 n47, Value.int IntKind.i64 n48, Value.int IntKind.i64 n49, Value.int IntKind.i64 n50, Value.bool
  c51, Value.slice p52 k53 k54]] w55 fun (e57 : Ending) (w58 : World) => ∃ (c59 : Bool), ∃ (n60 : Int), ∃ (n61 : Int), ∃ (n62 : Int), ∃ (p63 : Option Addr), ∃ (k64 : Nat), ∃ (k65 : Nat), ∃
  (p66 : Option Addr), ∃ (k67 : Nat), ∃ (k68 : Nat), e57 = Ending.returned (Value.agg #[Value.bool c59, Value.int IntKind.i64 n60, Value.int IntKind.i64 n61, Value.int IntKind.i64 n62,
  Value.slice p63 k64 k65, Value.slice p66 k67 k68]) ∧ ∃ (R69 : List Own), ∃ (Φ70 : PW), Stable Φ70 ∧ Ctx W w58 (R69 ++ R56) Φ70 ∧ ∀ (b : Nat) (w71 : World) (R72 : List Own), Ctx W w71 (R69
  ++ R72) Φ70 → ((!decide ((↑k67 : Int) ≠ 1)) = true → (0 : Int) ≤ 0 ∧ 0 < (↑k67 : Int)) ∧ ptrK (some !decide ((↑k67 : Int) ≠ 1)) p66 fun (k73 k74 : Nat) => ∃ (c75 : Bool), ((!decide ((↑k67 :
  Int) ≠ 1)) = true → w71.cell? (Addr.mk k73 (k74 + 7) none) = some (Value.bool c75)) ∧ Br (decide ((↑k67 : Int) ≠ 1) || !c75) (∀ (w76 : World) (R77 : List Own), Ctx W w76 (R69 ++ R77) Φ70 →
  J (Value.bool false) w76) (((0 : Int) ≤ 0 ∧ 0 < (↑k67 : Int)) ∧ ptrK none p66 fun (k78 k79 : Nat) => ∀ (w80 : World) (R81 : List Own), Ctx W w80 (R69 ++ R81) Φ70 → ∃ (n82 : Int), ∃ (n83 :
  Int), ∃ (n84 : Int), ∃ (n85 : Int), ∃ (n86 : Int), ∃ (n87 : Int), ∃ (n88 : Int), ∃ (c89 : Bool), ∃ (p90 : Option Addr), ∃ (k91 : Nat), ∃ (k92 : Nat), RowAt w80 k78 k79 [Value.int
  IntKind.i64 n82, Value.int IntKind.i64 n83, Value.int IntKind.i64 n84, Value.int IntKind.i64 n85, Value.int IntKind.i64 n86, Value.int IntKind.i64 n87, Value.int IntKind.i64 n88, Value.bool
  c89, Value.slice p90 k91 k92] ∧ ∀ (w93 : World) (R94 : List Own), Ctx W w93 (R69 ++ R94) Φ70 → Calls Try.prog F.replica_Replica_Hear #[Value.pointer p4, Value.agg #[Value.int IntKind.i64
  n82, Value.int IntKind.i64 n83, Value.int IntKind.i64 n84, Value.int IntKind.i64 n85, Value.int IntKind.i64 n86, Value.int IntKind.i64 n87, Value.int IntKind.i64 n88, Value.bool c89,
  Value.slice p90 k91 k92]] w93 fun (e95 : Ending) (w96 : World) => ∃ (c97 : Bool), ∃ (n98 : Int), ∃ (n99 : Int), ∃ (n100 : Int), ∃ (p101 : Option Addr), ∃ (k102 : Nat), ∃ (k103 : Nat), ∃
  (p104 : Option Addr), ∃ (k105 : Nat), ∃ (k106 : Nat), e95 = Ending.returned (Value.agg #[Value.bool c97, Value.int IntKind.i64 n98, Value.int IntKind.i64 n99, Value.int IntKind.i64 n100,
  Value.slice p101 k102 k103, Value.slice p104 k105 k106]) ∧ ∃ (R107 : List Own), ∃ (Φ108 : PW), Stable Φ108 ∧ Ctx W w96 (R107 ++ R94) Φ108 ∧ ∀ (b : Nat) (w109 : World) (R110 : List Own), Ctx
  W w109 (R107 ++ R110) Φ108 → Calls Try.prog F.replica_Replica_Propose #[Value.pointer p4, Value.string (ByteArray.mk #[OfNat.ofNat 97])] w109 fun (e111 : Ending) (w112 : World) => ∃ (n113 :
  Int), ∃ (n114 : Int), ∃ (c115 : Bool), ∃ (n116 : Int), ∃ (n117 : Int), ∃ (n118 : Int), ∃ (p119 : Option Addr), ∃ (k120 : Nat), ∃ (k121 : Nat), ∃ (p122 : Option Addr), ∃ (k123 : Nat), ∃
  (k124 : Nat), e111 = Ending.returned (Value.tuple #[Value.int IntKind.i64 n113, Value.int IntKind.i64 n114, Value.agg #[Value.bool c115, Value.int IntKind.i64 n116, Value.int IntKind.i64
  n117, Value.int IntKind.i64 n118, Value.slice p119 k120 k121, Value.slice p122 k123 k124]]) ∧ ∃ (R125 : List Own), ∃ (Φ126 : PW), Stable Φ126 ∧ Ctx W w112 (R125 ++ R110) Φ126 ∧ ∀ (b : Nat)
  (w127 : World) (R128 : List Own), Ctx W w127 (R125 ++ R128) Φ126 → ∃ (n129 : Int), ((!decide ((↑k105 : Int) ≠ 2)) = true → ∀ (w130 : World), w130 = w127 → Calls Try.prog
  F.replica_Replica_Role #[Value.pointer p4] w130 fun (e131 : Ending) (w132 : World) => e131 = Ending.returned (Value.int IntKind.i64 n129) ∧ w132 = w127) ∧ Br (decide ((↑k105 : Int) ≠ 2) ||
  decide (n129 ≠ 2) || decide (n113 ≠ 1) || decide (n114 ≠ 0) || decide ((↑k123 : Int) ≠ 2)) (∀ (w133 : World) (R134 : List Own), Ctx W w133 (R125 ++ R134) Φ126 → J (Value.bool false) w133)
  (((0 : Int) ≤ 0 ∧ 0 < (↑k123 : Int)) ∧ ptrK none p122 fun (k135 k136 : Nat) => ∀ (w137 : World) (R138 : List Own), Ctx W w137 (R125 ++ R138) Φ126 → ∃ (n139 : Int), ∃ (n140 : Int), ∃ (n141 :
  Int), ∃ (n142 : Int), ∃ (n143 : Int), ∃ (n144 : Int), ∃ (n145 : Int), ∃ (c146 : Bool), ∃ (p147 : Option Addr), ∃ (k148 : Nat), ∃ (k149 : Nat), RowAt w137 k135 k136 [Value.int IntKind.i64
  n139, Value.int IntKind.i64 n140, Value.int IntKind.i64 n141, Value.int IntKind.i64 n142, Value.int IntKind.i64 n143, Value.int IntKind.i64 n144, Value.int IntKind.i64 n145, Value.bool
  c146, Value.slice p147 k148 k149] ∧ ∀ (w150 : World) (R151 : List Own), Ctx W w150 (R125 ++ R151) Φ126 → Calls Try.prog F.replica_Replica_Hear #[Value.pointer p11, Value.agg #[Value.int
  IntKind.i64 n139, Value.int IntKind.i64 n140, Value.int IntKind.i64 n141, Value.int IntKind.i64 n142, Value.int IntKind.i64 n143, Value.int IntKind.i64 n144, Value.int IntKind.i64 n145,
  Value.bool c146, Value.slice p147 k148 k149]] w150 fun (e152 : Ending) (w153 : World) => ∃ (c154 : Bool), ∃ (n155 : Int), ∃ (n156 : Int), ∃ (n157 : Int), ∃ (p158 : Option Addr), ∃ (k159 :
  Nat), ∃ (k160 : Nat), ∃ (p161 : Option Addr), ∃ (k162 : Nat), ∃ (k163 : Nat), e152 = Ending.returned (Value.agg #[Value.bool c154, Value.int IntKind.i64 n155, Value.int IntKind.i64 n156,
  Value.int IntKind.i64 n157, Value.slice p158 k159 k160, Value.slice p161 k162 k163]) ∧ ∃ (R164 : List Own), ∃ (Φ165 : PW), Stable Φ165 ∧ Ctx W w153 (R164 ++ R151) Φ165 ∧ ∀ (b : Nat) (w166 :
  World) (R167 : List Own), Ctx W w166 (R164 ++ R167) Φ165 → Br (decide ((↑k162 : Int) ≠ 1) || decide (n157 ≠ 1)) (∀ (w168 : World) (R169 : List Own), Ctx W w168 (R164 ++ R169) Φ165 → J
  (Value.bool false) w168) (((0 : Int) ≤ 0 ∧ 0 < (↑k162 : Int)) ∧ ptrK none p161 fun (k170 k171 : Nat) => ∀ (w172 : World) (R173 : List Own), Ctx W w172 (R164 ++ R173) Φ165 → ∃ (n174 : Int),
  ∃ (n175 : Int), ∃ (n176 : Int), ∃ (n177 : Int), ∃ (n178 : Int), ∃ (n179 : Int), ∃ (n180 : Int), ∃ (c181 : Bool), ∃ (p182 : Option Addr), ∃ (k183 : Nat), ∃ (k184 : Nat), RowAt w172 k170 k171
  [Value.int IntKind.i64 n174, Value.int IntKind.i64 n175, Value.int IntKind.i64 n176, Value.int IntKind.i64 n177, Value.int IntKind.i64 n178, Value.int IntKind.i64 n179, Value.int
  IntKind.i64 n180, Value.bool c181, Value.slice p182 k183 k184] ∧ ∀ (w185 : World) (R186 : List Own), Ctx W w185 (R164 ++ R186) Φ165 → Calls Try.prog F.replica_Replica_Hear #[Value.pointer
  p4, Value.agg #[Value.int IntKind.i64 n174, Value.int IntKind.i64 n175, Value.int IntKind.i64 n176, Value.int IntKind.i64 n177, Value.int IntKind.i64 n178, Value.int IntKind.i64 n179,
  Value.int IntKind.i64 n180, Value.bool c181, Value.slice p182 k183 k184]] w185 fun (e187 : Ending) (w188 : World) => ∃ (c189 : Bool), ∃ (n190 : Int), ∃ (n191 : Int), ∃ (n192 : Int), ∃ (p193
  : Option Addr), ∃ (k194 : Nat), ∃ (k195 : Nat), ∃ (p196 : Option Addr), ∃ (k197 : Nat), ∃ (k198 : Nat), e187 = Ending.returned (Value.agg #[Value.bool c189, Value.int IntKind.i64 n190,
  Value.int IntKind.i64 n191, Value.int IntKind.i64 n192, Value.slice p193 k194 k195, Value.slice p196 k197 k198]) ∧ ∃ (R199 : List Own), ∃ (Φ200 : PW), Stable Φ200 ∧ Ctx W w188 (R199 ++
  R186) Φ200 ∧ ∀ (w201 : World) (R202 : List Own), Ctx W w201 (R199 ++ R202) Φ200 → Calls Try.prog F.replica_Replica_Commit #[Value.pointer p4] w201 fun (e203 : Ending) (w204 : World) => ∃
  (n205 : Int), e203 = Ending.returned (Value.int IntKind.i64 n205) ∧ ∃ (R206 : List Own), ∃ (Φ207 : PW), Stable Φ207 ∧ Ctx W w204 (R206 ++ R202) Φ207 ∧ Br (decide (n205 = 1)) (∀ (w208 :
  World) (R209 : List Own), Ctx W w208 (R206 ++ R209) Φ207 → Calls Try.prog F.replica_Replica_Log #[Value.pointer p4] w208 fun (e210 : Ending) (w211 : World) => ∃ (p212 : Option Addr), ∃
  (k213 : Nat), ∃ (k214 : Nat), e210 = Ending.returned (Value.slice p212 k213 k214) ∧ ∃ (R215 : List Own), ∃ (Φ216 : PW), Stable Φ216 ∧ Ctx W w211 (R215 ++ R209) Φ216 ∧ Br (decide ((↑k213 :
  Int) = 1)) (∀ (w217 : World) (R218 : List Own), Ctx W w217 (R215 ++ R218) Φ216 → Calls Try.prog F.replica_Replica_Log #[Value.pointer p11] w217 fun (e219 : Ending) (w220 : World) => ∃ (p221
  : Option Addr), ∃ (k222 : Nat), ∃ (k223 : Nat), e219 = Ending.returned (Value.slice p221 k222 k223) ∧ ∃ (R224 : List Own), ∃ (Φ225 : PW), Stable Φ225 ∧ Ctx W w220 (R224 ++ R218) Φ225 ∧ ∀
  (w226 : World) (R227 : List Own), Ctx W w226 (R224 ++ R227) Φ225 → J (Value.bool (decide ((↑k222 : Int) = 1))) w226) (∀ (w228 : World) (R229 : List Own), Ctx W w228 (R215 ++ R229) Φ216 → J
  (Value.bool false) w228)) (∀ (w230 : World) (R231 : List Own), Ctx W w230 (R206 ++ R231) Φ207 → J (Value.bool false) w230))))))))

theorem Berratalaw08_small_run  {W w : World} {R : List Own} {Φ : PW} [Stable Φ] {J : Value → World → Prop} (c : Ctx W w R Φ) (h : Berratalaw08_small  W R Φ J) : Calls Try.prog F.erratalaw08_small #[] w fun e w' => ∃ v, e = .returned v ∧ J v w' :=
  vcFS_sound (H := { keep := some [0, 1, 2, 3, 4, 5, 6, 7, 8, 9, 19, 36, 54, 89, 104], track := [3, 4, 5, 8, 9], split := [6, 19] }) (by rw [show vcFS Try.prog W { keep := some [0, 1, 2, 3, 4, 5, 6, 7, 8, 9, 19, 36, 54, 89, 104], track := [3, 4, 5, 8, 9], split := [6, 19] } F.erratalaw08_small #[] R Φ J = Berratalaw08_small  W R Φ J by kernel_rfl]; exact h) c

/-- erratalaw08.few -/
-- loop at region 2: 5 i; blocks 
def Berratalaw08_few (lP : Option Addr) (lN lC : Nat) (n : Int) (W : World) (R : List Own) (Φ : PW) (J : Value → World → Prop) : Prop :=
  exI fun (I0 : Int → List Own → PW → Nat → Prop) => (∃ (R1 : List Own), ∃ (Φ2 : PW), ∃ (k3 : Nat), Stable Φ2 ∧ (∀ (w4 : World) (R5 : List Own), Ctx W w4 (R ++ R5) Φ → Ctx W w4 (R1 ++ R5) Φ2)
  ∧ I0 0 R1 Φ2 k3) ∧ ∀ (n6 : Int) (R7 : List Own) (I8 : List Nat → World → Prop) (k9 : Nat), Stable I8 → I0 n6 R7 I8 k9 → Br (decide (n6 < (↑lN : Int))) ((0 ≤ n6 ∧ n6 < (↑lN : Int)) ∧ ptrK
  none lP fun (k10 k11 : Nat) => ∀ (w12 : World) (R13 : List Own), Ctx W w12 (R7 ++ R13) I8 → ∃ (s14 : ByteArray), w12.cell? (Addr.mk k10 (k11 + n6.toNat * 4 + 3) none) = some (Value.string
  s14) ∧ Br (decide (40 < (↑s14.size : Int))) (∀ (w15 : World) (R16 : List Own), Ctx W w15 (R7 ++ R16) I8 → J (Value.bool false) w15) (I64 (n6 + 1) ∧ ∃ (R17 : List Own), ∃ (Φ18 : PW), ∃ (k19
  : Nat), Stable Φ18 ∧ (∀ (w20 : World) (R21 : List Own), Ctx W w20 (R7 ++ R21) I8 → Ctx W w20 (R17 ++ R21) Φ18) ∧ I0 (n6 + 1) R17 Φ18 k19 ∧ k19 < k9)) (∀ (w22 : World) (R23 : List Own), Ctx
  W w22 (R7 ++ R23) I8 → J (Value.bool (decide ((↑lN : Int) ≤ n))) w22)

theorem Berratalaw08_few_run (lP : Option Addr) (lN lC : Nat) (n : Int) {W w : World} {R : List Own} {Φ : PW} [Stable Φ] {J : Value → World → Prop} (c : Ctx W w R Φ) (h : Berratalaw08_few lP lN lC n W R Φ J) : Calls Try.prog F.erratalaw08_few #[.slice lP lN lC, .int .i64 n] w fun e w' => ∃ v, e = .returned v ∧ J v w' :=
  vcFS_sound (H := { keep := some [0, 1, 4, 5, 9, 18], loops := [(2, [(5, .one (.int .i64))], [])] }) (by rw [show vcFS Try.prog W { keep := some [0, 1, 4, 5, 9, 18], loops := [(2, [(5, .one (.int .i64))], [])] } F.erratalaw08_few #[.slice lP lN lC, .int .i64 n] R Φ J = Berratalaw08_few lP lN lC n W R Φ J by kernel_rfl]; exact h) c

/-- (*erratalaw08.cluster).step -/
-- known blocks: 3 o, 9 out
def Berratalaw08_cluster_step (xB xO : Nat) (o0 : Int) (o1 : Int) (o2 : Int) (o3 : ByteArray) (W : World) (R : List Own) (Φ : PW) (J : Value → World → Prop) : Prop :=
  ∀ (b : Nat) (w0 : World) (R1 : List Own), Ctx W w0 (R ++ R1) Φ → Calls Try.prog F.erratalaw08_pick #[Value.int IntKind.i64 o1, Value.int IntKind.i64 3] w0 fun (e2 : Ending) (w3 : World) =>
  ∃ (n4 : Int), e2 = Ending.returned (Value.int IntKind.i64 n4) ∧ ∃ (R5 : List Own), ∃ (Φ6 : PW), Stable Φ6 ∧ Ctx W w3 (R5 ++ R1) Φ6 ∧ ∃ (n7 : Int), (∀ (w8 : World), Sem.run Try.prog (binOp
  BinOp.and 3 (Value.int IntKind.i64 o0) (Value.int IntKind.i64 15)) w8 = Result.ok (Value.int IntKind.i64 n7) w8) ∧ Br (decide (n7 = 8)) (∀ (w9 : World) (R10 : List Own), Ctx W w9 (R5 ++
  R10) Φ6 → ∃ (p11 : Option Addr), ∃ (k12 : Nat), ∃ (k13 : Nat), w9.cell? (Addr.mk xB (xO + 2) none) = some (Value.slice p11 k12 k13) ∧ Br (decide (0 < (↑k12 : Int))) (∀ (w14 : World) (R15 :
  List Own), Ctx W w14 (R5 ++ R15) Φ6 → ∃ (p16 : Option Addr), ∃ (k17 : Nat), ∃ (k18 : Nat), w14.cell? (Addr.mk xB (xO + 2) none) = some (Value.slice p16 k17 k18) ∧ ∃ (n19 : Int), (∀ (w20 :
  World), (∃ (k21 : Nat), w20 = w14.drewN k21) → Calls Try.prog F.erratalaw08_pick #[Value.int IntKind.i64 o2, Value.int IntKind.i64 (↑k17 : Int)] w20 fun (e22 : Ending) (w23 : World) => e22
  = Ending.returned (Value.int IntKind.i64 n19) ∧ ∃ (k24 : Nat), w23 = w14.drewN k24) ∧ ∃ (R25 : List Own), ∃ (Φ26 : PW), Stable Φ26 ∧ (∀ (w27 : World) (R28 : List Own), Ctx W w27 (R5 ++ R28)
  Φ6 → Ctx W w27 (R25 ++ R28) Φ26) ∧ I64 (n19 + 1) ∧ ∃ (p29 : Option Addr), ∃ (k30 : Nat), ∃ (k31 : Nat), (∀ (w32 : World) (R33 : List Own), Ctx W w32 (R25 ++ R33) Φ26 → ∃ (p34 : Option
  Addr), ∃ (k35 : Nat), ∃ (k36 : Nat), w32.cell? (Addr.mk xB (xO + 2) none) = some (Value.slice p34 k35 k36) ∧ Value.slice p34 k35 k36 = Value.slice p29 k30 k31) ∧ ∃ (p37 : Option Addr), ∃
  (k38 : Nat), ∃ (k39 : Nat), (∀ (w40 : World) (R41 : List Own), Ctx W w40 (R25 ++ R41) Φ26 → ∃ (p42 : Option Addr), ∃ (k43 : Nat), ∃ (k44 : Nat), w40.cell? (Addr.mk xB (xO + 2) none) = some
  (Value.slice p42 k43 k44) ∧ Value.slice p42 k43 k44 = Value.slice p37 k38 k39) ∧ (0 ≤ n19 ∧ n19 ≤ (↑k31 : Int)) ∧ (0 ≤ n19 + 1 ∧ n19 + 1 ≤ (↑k38 : Int) ∧ k38 ≤ k39) ∧ ∀ (k45 : Nat), (∀ (w46
  : World) (R47 : List Own), Ctx W w46 (Own.blk k45 [] 37 :: R5 ++ R47) Φ6 → Ctx W w46 (R25 ++ R47) Φ26) ∧ ∀ (w48 : World) (R49 : List Own), Ctx W w48 (Own.blk k45 [] 37 :: R5 ++ R49) Φ6 → ∃
  (p50 : Option Addr), ∃ (k51 : Nat), ∃ (k52 : Nat), ∃ (w53 : World), Sem.run Try.prog (builtin Builtin.append #[27, 27] 27 #[false, false] #[Value.slice (some (Addr.mk k45 0 none)) 0 0,
  Value.slice (subPtr p29 9 0 k31) n19.toNat k31]) w48 = Result.ok (Next.value (Value.slice p50 k51 k52)) w53 ∧ ∃ (R54 : List Own), ∃ (Φ55 : PW), Stable Φ55 ∧ Ctx W w53 (R54 ++ R49) Φ55 ∧ (∀
  (w56 : World) (R57 : List Own), Ctx W w56 (R54 ++ R57) Φ55 → Ctx W w56 (R25 ++ R57) Φ26) ∧ ∀ (w58 : World) (R59 : List Own), Ctx W w58 (R54 ++ R59) Φ55 → ∃ (p60 : Option Addr), ∃ (k61 :
  Nat), ∃ (k62 : Nat), ∃ (w63 : World), Sem.run Try.prog (builtin Builtin.append #[27, 27] 27 #[false, false] #[Value.slice p50 k51 k52, Value.slice (subPtr p37 9 (n19 + 1).toNat k39) (k38 -
  (n19 + 1).toNat) (k39 - (n19 + 1).toNat)]) w58 = Result.ok (Next.value (Value.slice p60 k61 k62)) w63 ∧ ∃ (R64 : List Own), ∃ (Φ65 : PW), Stable Φ65 ∧ Ctx W w63 (R64 ++ R59) Φ65 ∧ (∀ (w66 :
  World) (R67 : List Own), Ctx W w66 (R64 ++ R67) Φ65 → Ctx W w66 (R25 ++ R67) Φ26) ∧ ∀ (w68 : World) (R69 : List Own), Ctx W w68 (R64 ++ R69) Φ65 → CanWrite w68 xB (xO + 2) 1 ∧ ∀ (w70 :
  World), w70 = w68.setCell (Addr.mk xB (xO + 2) none) (Value.slice p60 k61 k62) → ∃ (R71 : List Own), ∃ (Φ72 : PW), Stable Φ72 ∧ Ctx W w70 (R71 ++ R69) Φ72 ∧ ∀ (w73 : World) (R74 : List
  Own), Ctx W w73 (R71 ++ R74) Φ72 → J (Value.bool true) w73) (∀ (w75 : World) (R76 : List Own), Ctx W w75 (R5 ++ R76) Φ6 → J (Value.bool true) w75)) (Br (decide (n7 = 9)) (∀ (w77 : World)
  (R78 : List Own), Ctx W w77 (R5 ++ R78) Φ6 → Calls Try.prog F.erratalaw08_cluster_arrive #[Value.pointer (some (Addr.mk xB xO none)), Value.int IntKind.i64 o2, Value.bool true] w77 fun (e79
  : Ending) (w80 : World) => ∃ (c81 : Bool), e79 = Ending.returned (Value.bool c81) ∧ ∃ (R82 : List Own), ∃ (Φ83 : PW), Stable Φ83 ∧ Ctx W w80 (R82 ++ R78) Φ83 ∧ ∀ (w84 : World) (R85 : List
  Own), Ctx W w84 (R82 ++ R85) Φ83 → J (Value.bool c81) w84) (Br (decide (n7 = 10)) (Br (decide (n7 = 10)) (∀ (w86 : World) (R87 : List Own), Ctx W w86 (R5 ++ R87) Φ6 → ∃ (p88 : Option Addr),
  ∃ (k89 : Nat), ∃ (k90 : Nat), w86.cell? (Addr.mk xB xO none) = some (Value.slice p88 k89 k90) ∧ (0 ≤ n4 ∧ n4 < (↑k89 : Int)) ∧ ptrK none p88 fun (k91 k92 : Nat) => ∀ (w93 : World) (R94 :
  List Own), Ctx W w93 (R5 ++ R94) Φ6 → ∃ (p95 : Option Addr), w93.cell? (Addr.mk k91 (k92 + n4.toNat) none) = some (Value.pointer p95) ∧ ∀ (w96 : World) (R97 : List Own), Ctx W w96 (R5 ++
  R97) Φ6 → Calls Try.prog F.replica_Replica_Tick #[Value.pointer p95] w96 fun (e98 : Ending) (w99 : World) => ∃ (c100 : Bool), ∃ (n101 : Int), ∃ (n102 : Int), ∃ (n103 : Int), ∃ (p104 :
  Option Addr), ∃ (k105 : Nat), ∃ (k106 : Nat), ∃ (p107 : Option Addr), ∃ (k108 : Nat), ∃ (k109 : Nat), e98 = Ending.returned (Value.agg #[Value.bool c100, Value.int IntKind.i64 n101,
  Value.int IntKind.i64 n102, Value.int IntKind.i64 n103, Value.slice p104 k105 k106, Value.slice p107 k108 k109]) ∧ ∃ (R110 : List Own), ∃ (Φ111 : PW), Stable Φ111 ∧ Ctx W w99 (R110 ++ R97)
  Φ111 ∧ ∀ (w112 : World) (R113 : List Own), Ctx W w112 (R110 ++ R113) Φ111 → Calls Try.prog F.erratalaw08_cluster_done #[Value.pointer (some (Addr.mk xB xO none)), Value.int IntKind.i64 n4,
  Value.agg #[Value.bool c100, Value.int IntKind.i64 n101, Value.int IntKind.i64 n102, Value.int IntKind.i64 n103, Value.slice p104 k105 k106, Value.slice p107 k108 k109]] w112 fun (e114 :
  Ending) (w115 : World) => ∃ (c116 : Bool), e114 = Ending.returned (Value.bool c116) ∧ ∃ (R117 : List Own), ∃ (Φ118 : PW), Stable Φ118 ∧ Ctx W w115 (R117 ++ R113) Φ118 ∧ ∀ (w119 : World)
  (R120 : List Own), Ctx W w119 (R117 ++ R120) Φ118 → J (Value.bool c116) w119) (Br (decide (n7 = 12)) (Br (decide (n7 = 12)) (∃ (R121 : List Own), ∃ (Φ122 : PW), Stable Φ122 ∧ (∀ (w123 :
  World) (R124 : List Own), Ctx W w123 (R5 ++ R124) Φ6 → Ctx W w123 (R121 ++ R124) Φ122) ∧ ∃ (p125 : Option Addr), ∃ (k126 : Nat), ∃ (k127 : Nat), (∀ (w128 : World) (R129 : List Own), Ctx W
  w128 (R121 ++ R129) Φ122 → ∃ (p130 : Option Addr), ∃ (k131 : Nat), ∃ (k132 : Nat), w128.cell? (Addr.mk xB xO none) = some (Value.slice p130 k131 k132) ∧ Value.slice p130 k131 k132 =
  Value.slice p125 k126 k127) ∧ (0 ≤ n4 ∧ n4 < (↑k126 : Int)) ∧ ptrK none p125 fun (k133 k134 : Nat) => ∃ (p135 : Option Addr), (∀ (w136 : World) (R137 : List Own), Ctx W w136 (R121 ++ R137)
  Φ122 → ∃ (p138 : Option Addr), w136.cell? (Addr.mk k133 (k134 + n4.toNat) none) = some (Value.pointer p138) ∧ Value.pointer p138 = Value.pointer p135) ∧ (∀ (w139 : World) (R140 : List Own),
  Ctx W w139 (R5 ++ R140) Φ6 → Calls Try.prog F.replica_Replica_Propose #[Value.pointer p135, Value.string o3] w139 fun (e141 : Ending) (w142 : World) => ∃ (n143 : Int), ∃ (n144 : Int), ∃
  (c145 : Bool), ∃ (n146 : Int), ∃ (n147 : Int), ∃ (n148 : Int), ∃ (p149 : Option Addr), ∃ (k150 : Nat), ∃ (k151 : Nat), ∃ (p152 : Option Addr), ∃ (k153 : Nat), ∃ (k154 : Nat), e141 =
  Ending.returned (Value.tuple #[Value.int IntKind.i64 n143, Value.int IntKind.i64 n144, Value.agg #[Value.bool c145, Value.int IntKind.i64 n146, Value.int IntKind.i64 n147, Value.int
  IntKind.i64 n148, Value.slice p149 k150 k151, Value.slice p152 k153 k154]]) ∧ ∃ (R155 : List Own), ∃ (Φ156 : PW), Stable Φ156 ∧ Ctx W w142 (R155 ++ R140) Φ156 ∧ (∀ (w157 : World) (R158 :
  List Own), Ctx W w157 (R155 ++ R158) Φ156 → Ctx W w157 (R121 ++ R158) Φ122) ∧ (∀ (k159 : Nat), (∀ (w160 : World) (R161 : List Own), Ctx W w160 (Own.blk k159 [Value.bool false, Value.int
  IntKind.i64 0, Value.int IntKind.i64 0, Value.int IntKind.i64 0, Value.slice none 0 0, Value.slice none 0 0] 45 :: R155 ++ R161) Φ156 → Ctx W w160 (R121 ++ R161) Φ122) ∧ (∀ (w162 : World)
  (R163 : List Own), Ctx W w162 (Own.blk k159 [Value.bool false, Value.int IntKind.i64 0, Value.int IntKind.i64 0, Value.int IntKind.i64 0, Value.slice none 0 0, Value.slice none 0 0] 45 ::
  R155 ++ R163) Φ156 → CanWrite w162 k159 0 6 ∧ ∀ (w164 : World), w164 = w162.setCells k159 0 [Value.bool c145, Value.int IntKind.i64 n146, Value.int IntKind.i64 n147, Value.int IntKind.i64
  n148, Value.slice p149 k150 k151, Value.slice p152 k153 k154] → ∃ (R165 : List Own), ∃ (Φ166 : PW), Stable Φ166 ∧ Ctx W w164 (R165 ++ R163) Φ166 ∧ (∀ (w167 : World) (R168 : List Own), Ctx W
  w167 (R165 ++ R168) Φ166 → Ctx W w167 (R121 ++ R168) Φ122) ∧ ∀ (w169 : World) (R170 : List Own), Ctx W w169 (R165 ++ R170) Φ166 → ∃ (c171 : Bool), ∃ (n172 : Int), ∃ (n173 : Int), ∃ (n174 :
  Int), ∃ (p175 : Option Addr), ∃ (k176 : Nat), ∃ (k177 : Nat), ∃ (p178 : Option Addr), ∃ (k179 : Nat), ∃ (k180 : Nat), RowAt w169 k159 0 [Value.bool c171, Value.int IntKind.i64 n172,
  Value.int IntKind.i64 n173, Value.int IntKind.i64 n174, Value.slice p175 k176 k177, Value.slice p178 k179 k180] ∧ ∀ (w181 : World) (R182 : List Own), Ctx W w181 (R165 ++ R182) Φ166 → Calls
  Try.prog F.erratalaw08_cluster_done #[Value.pointer (some (Addr.mk xB xO none)), Value.int IntKind.i64 n4, Value.agg #[Value.bool c171, Value.int IntKind.i64 n172, Value.int IntKind.i64
  n173, Value.int IntKind.i64 n174, Value.slice p175 k176 k177, Value.slice p178 k179 k180]] w181 fun (e183 : Ending) (w184 : World) => ∃ (c185 : Bool), e183 = Ending.returned (Value.bool
  c185) ∧ ∃ (R186 : List Own), ∃ (Φ187 : PW), Stable Φ187 ∧ Ctx W w184 (R186 ++ R182) Φ187 ∧ ∀ (w188 : World) (R189 : List Own), Ctx W w188 (R186 ++ R189) Φ187 → J (Value.bool c185) w188) ∧
  True) ∧ True) ∧ (∀ (k190 : Nat), (∀ (w191 : World) (R192 : List Own), Ctx W w191 (Own.blk k190 [Value.bool false, Value.int IntKind.i64 0, Value.int IntKind.i64 0, Value.int IntKind.i64 0,
  Value.slice none 0 0, Value.slice none 0 0] 45 :: R5 ++ R192) Φ6 → Ctx W w191 (R121 ++ R192) Φ122) ∧ (∀ (w193 : World) (R194 : List Own), Ctx W w193 (Own.blk k190 [Value.bool false,
  Value.int IntKind.i64 0, Value.int IntKind.i64 0, Value.int IntKind.i64 0, Value.slice none 0 0, Value.slice none 0 0] 45 :: R5 ++ R194) Φ6 → Calls Try.prog F.replica_Replica_Propose
  #[Value.pointer p135, Value.string o3] w193 fun (e195 : Ending) (w196 : World) => ∃ (n197 : Int), ∃ (n198 : Int), ∃ (c199 : Bool), ∃ (n200 : Int), ∃ (n201 : Int), ∃ (n202 : Int), ∃ (p203 :
  Option Addr), ∃ (k204 : Nat), ∃ (k205 : Nat), ∃ (p206 : Option Addr), ∃ (k207 : Nat), ∃ (k208 : Nat), e195 = Ending.returned (Value.tuple #[Value.int IntKind.i64 n197, Value.int IntKind.i64
  n198, Value.agg #[Value.bool c199, Value.int IntKind.i64 n200, Value.int IntKind.i64 n201, Value.int IntKind.i64 n202, Value.slice p203 k204 k205, Value.slice p206 k207 k208]]) ∧ ∃ (R209 :
  List Own), ∃ (Φ210 : PW), Stable Φ210 ∧ Ctx W w196 (R209 ++ R194) Φ210 ∧ (∀ (w211 : World) (R212 : List Own), Ctx W w211 (R209 ++ R212) Φ210 → Ctx W w211 (R121 ++ R212) Φ122) ∧ (∀ (w213 :
  World) (R214 : List Own), Ctx W w213 (R209 ++ R214) Φ210 → CanWrite w213 k190 0 6 ∧ ∀ (w215 : World), w215 = w213.setCells k190 0 [Value.bool c199, Value.int IntKind.i64 n200, Value.int
  IntKind.i64 n201, Value.int IntKind.i64 n202, Value.slice p203 k204 k205, Value.slice p206 k207 k208] → ∃ (R216 : List Own), ∃ (Φ217 : PW), Stable Φ217 ∧ Ctx W w215 (R216 ++ R214) Φ217 ∧ (∀
  (w218 : World) (R219 : List Own), Ctx W w218 (R216 ++ R219) Φ217 → Ctx W w218 (R121 ++ R219) Φ122) ∧ ∀ (w220 : World) (R221 : List Own), Ctx W w220 (R216 ++ R221) Φ217 → ∃ (c222 : Bool), ∃
  (n223 : Int), ∃ (n224 : Int), ∃ (n225 : Int), ∃ (p226 : Option Addr), ∃ (k227 : Nat), ∃ (k228 : Nat), ∃ (p229 : Option Addr), ∃ (k230 : Nat), ∃ (k231 : Nat), RowAt w220 k190 0 [Value.bool
  c222, Value.int IntKind.i64 n223, Value.int IntKind.i64 n224, Value.int IntKind.i64 n225, Value.slice p226 k227 k228, Value.slice p229 k230 k231] ∧ ∀ (w232 : World) (R233 : List Own), Ctx W
  w232 (R216 ++ R233) Φ217 → Calls Try.prog F.erratalaw08_cluster_done #[Value.pointer (some (Addr.mk xB xO none)), Value.int IntKind.i64 n4, Value.agg #[Value.bool c222, Value.int
  IntKind.i64 n223, Value.int IntKind.i64 n224, Value.int IntKind.i64 n225, Value.slice p226 k227 k228, Value.slice p229 k230 k231]] w232 fun (e234 : Ending) (w235 : World) => ∃ (c236 :
  Bool), e234 = Ending.returned (Value.bool c236) ∧ ∃ (R237 : List Own), ∃ (Φ238 : PW), Stable Φ238 ∧ Ctx W w235 (R237 ++ R233) Φ238 ∧ ∀ (w239 : World) (R240 : List Own), Ctx W w239 (R237 ++
  R240) Φ238 → J (Value.bool c236) w239) ∧ True) ∧ True) ∧ True) (Br (decide (n7 = 14)) (∀ (w241 : World) (R242 : List Own), Ctx W w241 (R5 ++ R242) Φ6 → Calls Try.prog
  F.erratalaw08_cluster_start #[Value.pointer (some (Addr.mk xB xO none)), Value.int IntKind.i64 n4] w241 fun (e243 : Ending) (w244 : World) => ∃ (c245 : Bool), e243 = Ending.returned
  (Value.bool c245) ∧ ∃ (R246 : List Own), ∃ (Φ247 : PW), Stable Φ247 ∧ Ctx W w244 (R246 ++ R242) Φ247 ∧ ∀ (w248 : World) (R249 : List Own), Ctx W w248 (R246 ++ R249) Φ247 → J (Value.bool
  c245) w248) (Br (decide (n7 = 15)) (∃ (n250 : Int), (∀ (w251 : World), Sem.run Try.prog (binOp BinOp.and 3 (Value.int IntKind.i64 o2) (Value.int IntKind.i64 1)) w251 = Result.ok (Value.int
  IntKind.i64 n250) w251) ∧ ∀ (w252 : World) (R253 : List Own), Ctx W w252 (R5 ++ R253) Φ6 → ∃ (p254 : Option Addr), ∃ (k255 : Nat), ∃ (k256 : Nat), w252.cell? (Addr.mk xB (xO + 1) none) =
  some (Value.slice p254 k255 k256) ∧ I64 (1 + n250) ∧ (0 ≤ n4 ∧ n4 < (↑k255 : Int)) ∧ ptrK none p254 fun (k257 k258 : Nat) => ∀ (w259 : World) (R260 : List Own), Ctx W w259 (R5 ++ R260) Φ6 →
  CanWrite w259 k257 (k258 + n4.toNat * 4 + 3) 1 ∧ ∀ (w261 : World), w261 = w259.setCell (Addr.mk k257 (k258 + n4.toNat * 4 + 3) none) (Value.int IntKind.i64 (1 + n250)) → ∃ (R262 : List
  Own), ∃ (Φ263 : PW), Stable Φ263 ∧ Ctx W w261 (R262 ++ R260) Φ263 ∧ ∀ (w264 : World) (R265 : List Own), Ctx W w264 (R262 ++ R265) Φ263 → J (Value.bool true) w264) (∀ (w266 : World) (R267 :
  List Own), Ctx W w266 (R5 ++ R267) Φ6 → Calls Try.prog F.erratalaw08_cluster_arrive #[Value.pointer (some (Addr.mk xB xO none)), Value.int IntKind.i64 o2, Value.bool false] w266 fun (e268 :
  Ending) (w269 : World) => ∃ (c270 : Bool), e268 = Ending.returned (Value.bool c270) ∧ ∃ (R271 : List Own), ∃ (Φ272 : PW), Stable Φ272 ∧ Ctx W w269 (R271 ++ R267) Φ272 ∧ ∀ (w273 : World)
  (R274 : List Own), Ctx W w273 (R271 ++ R274) Φ272 → J (Value.bool c270) w273)))) (Br (decide (n7 = 13)) (∃ (R275 : List Own), ∃ (Φ276 : PW), Stable Φ276 ∧ (∀ (w277 : World) (R278 : List
  Own), Ctx W w277 (R5 ++ R278) Φ6 → Ctx W w277 (R275 ++ R278) Φ276) ∧ ∃ (p279 : Option Addr), ∃ (k280 : Nat), ∃ (k281 : Nat), (∀ (w282 : World) (R283 : List Own), Ctx W w282 (R275 ++ R283)
  Φ276 → ∃ (p284 : Option Addr), ∃ (k285 : Nat), ∃ (k286 : Nat), w282.cell? (Addr.mk xB xO none) = some (Value.slice p284 k285 k286) ∧ Value.slice p284 k285 k286 = Value.slice p279 k280 k281)
  ∧ (0 ≤ n4 ∧ n4 < (↑k280 : Int)) ∧ ptrK none p279 fun (k287 k288 : Nat) => ∃ (p289 : Option Addr), (∀ (w290 : World) (R291 : List Own), Ctx W w290 (R275 ++ R291) Φ276 → ∃ (p292 : Option
  Addr), w290.cell? (Addr.mk k287 (k288 + n4.toNat) none) = some (Value.pointer p292) ∧ Value.pointer p292 = Value.pointer p289) ∧ (∀ (w293 : World) (R294 : List Own), Ctx W w293 (R5 ++ R294)
  Φ6 → Calls Try.prog F.replica_Replica_Propose #[Value.pointer p289, Value.string o3] w293 fun (e295 : Ending) (w296 : World) => ∃ (n297 : Int), ∃ (n298 : Int), ∃ (c299 : Bool), ∃ (n300 :
  Int), ∃ (n301 : Int), ∃ (n302 : Int), ∃ (p303 : Option Addr), ∃ (k304 : Nat), ∃ (k305 : Nat), ∃ (p306 : Option Addr), ∃ (k307 : Nat), ∃ (k308 : Nat), e295 = Ending.returned (Value.tuple
  #[Value.int IntKind.i64 n297, Value.int IntKind.i64 n298, Value.agg #[Value.bool c299, Value.int IntKind.i64 n300, Value.int IntKind.i64 n301, Value.int IntKind.i64 n302, Value.slice p303
  k304 k305, Value.slice p306 k307 k308]]) ∧ ∃ (R309 : List Own), ∃ (Φ310 : PW), Stable Φ310 ∧ Ctx W w296 (R309 ++ R294) Φ310 ∧ (∀ (w311 : World) (R312 : List Own), Ctx W w311 (R309 ++ R312)
  Φ310 → Ctx W w311 (R275 ++ R312) Φ276) ∧ (∀ (k313 : Nat), (∀ (w314 : World) (R315 : List Own), Ctx W w314 (Own.blk k313 [Value.bool false, Value.int IntKind.i64 0, Value.int IntKind.i64 0,
  Value.int IntKind.i64 0, Value.slice none 0 0, Value.slice none 0 0] 45 :: R309 ++ R315) Φ310 → Ctx W w314 (R275 ++ R315) Φ276) ∧ (∀ (w316 : World) (R317 : List Own), Ctx W w316 (Own.blk
  k313 [Value.bool false, Value.int IntKind.i64 0, Value.int IntKind.i64 0, Value.int IntKind.i64 0, Value.slice none 0 0, Value.slice none 0 0] 45 :: R309 ++ R317) Φ310 → CanWrite w316 k313
  0 6 ∧ ∀ (w318 : World), w318 = w316.setCells k313 0 [Value.bool c299, Value.int IntKind.i64 n300, Value.int IntKind.i64 n301, Value.int IntKind.i64 n302, Value.slice p303 k304 k305,
  Value.slice p306 k307 k308] → ∃ (R319 : List Own), ∃ (Φ320 : PW), Stable Φ320 ∧ Ctx W w318 (R319 ++ R317) Φ320 ∧ (∀ (w321 : World) (R322 : List Own), Ctx W w321 (R319 ++ R322) Φ320 → Ctx W
  w321 (R275 ++ R322) Φ276) ∧ ∀ (w323 : World) (R324 : List Own), Ctx W w323 (R319 ++ R324) Φ320 → ∃ (c325 : Bool), ∃ (n326 : Int), ∃ (n327 : Int), ∃ (n328 : Int), ∃ (p329 : Option Addr), ∃
  (k330 : Nat), ∃ (k331 : Nat), ∃ (p332 : Option Addr), ∃ (k333 : Nat), ∃ (k334 : Nat), RowAt w323 k313 0 [Value.bool c325, Value.int IntKind.i64 n326, Value.int IntKind.i64 n327, Value.int
  IntKind.i64 n328, Value.slice p329 k330 k331, Value.slice p332 k333 k334] ∧ ∀ (w335 : World) (R336 : List Own), Ctx W w335 (R319 ++ R336) Φ320 → Calls Try.prog F.erratalaw08_cluster_done
  #[Value.pointer (some (Addr.mk xB xO none)), Value.int IntKind.i64 n4, Value.agg #[Value.bool c325, Value.int IntKind.i64 n326, Value.int IntKind.i64 n327, Value.int IntKind.i64 n328,
  Value.slice p329 k330 k331, Value.slice p332 k333 k334]] w335 fun (e337 : Ending) (w338 : World) => ∃ (c339 : Bool), e337 = Ending.returned (Value.bool c339) ∧ ∃ (R340 : List Own), ∃ (Φ341
  : PW), Stable Φ341 ∧ Ctx W w338 (R340 ++ R336) Φ341 ∧ ∀ (w342 : World) (R343 : List Own), Ctx W w342 (R340 ++ R343) Φ341 → J (Value.bool c339) w342) ∧ True) ∧ True) ∧ (∀ (k344 : Nat), (∀
  (w345 : World) (R346 : List Own), Ctx W w345 (Own.blk k344 [Value.bool false, Value.int IntKind.i64 0, Value.int IntKind.i64 0, Value.int IntKind.i64 0, Value.slice none 0 0, Value.slice
  none 0 0] 45 :: R5 ++ R346) Φ6 → Ctx W w345 (R275 ++ R346) Φ276) ∧ (∀ (w347 : World) (R348 : List Own), Ctx W w347 (Own.blk k344 [Value.bool false, Value.int IntKind.i64 0, Value.int
  IntKind.i64 0, Value.int IntKind.i64 0, Value.slice none 0 0, Value.slice none 0 0] 45 :: R5 ++ R348) Φ6 → Calls Try.prog F.replica_Replica_Propose #[Value.pointer p289, Value.string o3]
  w347 fun (e349 : Ending) (w350 : World) => ∃ (n351 : Int), ∃ (n352 : Int), ∃ (c353 : Bool), ∃ (n354 : Int), ∃ (n355 : Int), ∃ (n356 : Int), ∃ (p357 : Option Addr), ∃ (k358 : Nat), ∃ (k359 :
  Nat), ∃ (p360 : Option Addr), ∃ (k361 : Nat), ∃ (k362 : Nat), e349 = Ending.returned (Value.tuple #[Value.int IntKind.i64 n351, Value.int IntKind.i64 n352, Value.agg #[Value.bool c353,
  Value.int IntKind.i64 n354, Value.int IntKind.i64 n355, Value.int IntKind.i64 n356, Value.slice p357 k358 k359, Value.slice p360 k361 k362]]) ∧ ∃ (R363 : List Own), ∃ (Φ364 : PW), Stable
  Φ364 ∧ Ctx W w350 (R363 ++ R348) Φ364 ∧ (∀ (w365 : World) (R366 : List Own), Ctx W w365 (R363 ++ R366) Φ364 → Ctx W w365 (R275 ++ R366) Φ276) ∧ (∀ (w367 : World) (R368 : List Own), Ctx W
  w367 (R363 ++ R368) Φ364 → CanWrite w367 k344 0 6 ∧ ∀ (w369 : World), w369 = w367.setCells k344 0 [Value.bool c353, Value.int IntKind.i64 n354, Value.int IntKind.i64 n355, Value.int
  IntKind.i64 n356, Value.slice p357 k358 k359, Value.slice p360 k361 k362] → ∃ (R370 : List Own), ∃ (Φ371 : PW), Stable Φ371 ∧ Ctx W w369 (R370 ++ R368) Φ371 ∧ (∀ (w372 : World) (R373 : List
  Own), Ctx W w372 (R370 ++ R373) Φ371 → Ctx W w372 (R275 ++ R373) Φ276) ∧ ∀ (w374 : World) (R375 : List Own), Ctx W w374 (R370 ++ R375) Φ371 → ∃ (c376 : Bool), ∃ (n377 : Int), ∃ (n378 :
  Int), ∃ (n379 : Int), ∃ (p380 : Option Addr), ∃ (k381 : Nat), ∃ (k382 : Nat), ∃ (p383 : Option Addr), ∃ (k384 : Nat), ∃ (k385 : Nat), RowAt w374 k344 0 [Value.bool c376, Value.int
  IntKind.i64 n377, Value.int IntKind.i64 n378, Value.int IntKind.i64 n379, Value.slice p380 k381 k382, Value.slice p383 k384 k385] ∧ ∀ (w386 : World) (R387 : List Own), Ctx W w386 (R370 ++
  R387) Φ371 → Calls Try.prog F.erratalaw08_cluster_done #[Value.pointer (some (Addr.mk xB xO none)), Value.int IntKind.i64 n4, Value.agg #[Value.bool c376, Value.int IntKind.i64 n377,
  Value.int IntKind.i64 n378, Value.int IntKind.i64 n379, Value.slice p380 k381 k382, Value.slice p383 k384 k385]] w386 fun (e388 : Ending) (w389 : World) => ∃ (c390 : Bool), e388 =
  Ending.returned (Value.bool c390) ∧ ∃ (R391 : List Own), ∃ (Φ392 : PW), Stable Φ392 ∧ Ctx W w389 (R391 ++ R387) Φ392 ∧ ∀ (w393 : World) (R394 : List Own), Ctx W w393 (R391 ++ R394) Φ392 → J
  (Value.bool c390) w393) ∧ True) ∧ True) ∧ True) (Br (decide (n7 = 14)) (∀ (w395 : World) (R396 : List Own), Ctx W w395 (R5 ++ R396) Φ6 → Calls Try.prog F.erratalaw08_cluster_start
  #[Value.pointer (some (Addr.mk xB xO none)), Value.int IntKind.i64 n4] w395 fun (e397 : Ending) (w398 : World) => ∃ (c399 : Bool), e397 = Ending.returned (Value.bool c399) ∧ ∃ (R400 : List
  Own), ∃ (Φ401 : PW), Stable Φ401 ∧ Ctx W w398 (R400 ++ R396) Φ401 ∧ ∀ (w402 : World) (R403 : List Own), Ctx W w402 (R400 ++ R403) Φ401 → J (Value.bool c399) w402) (Br (decide (n7 = 15)) (∃
  (n404 : Int), (∀ (w405 : World), Sem.run Try.prog (binOp BinOp.and 3 (Value.int IntKind.i64 o2) (Value.int IntKind.i64 1)) w405 = Result.ok (Value.int IntKind.i64 n404) w405) ∧ ∀ (w406 :
  World) (R407 : List Own), Ctx W w406 (R5 ++ R407) Φ6 → ∃ (p408 : Option Addr), ∃ (k409 : Nat), ∃ (k410 : Nat), w406.cell? (Addr.mk xB (xO + 1) none) = some (Value.slice p408 k409 k410) ∧
  I64 (1 + n404) ∧ (0 ≤ n4 ∧ n4 < (↑k409 : Int)) ∧ ptrK none p408 fun (k411 k412 : Nat) => ∀ (w413 : World) (R414 : List Own), Ctx W w413 (R5 ++ R414) Φ6 → CanWrite w413 k411 (k412 + n4.toNat
  * 4 + 3) 1 ∧ ∀ (w415 : World), w415 = w413.setCell (Addr.mk k411 (k412 + n4.toNat * 4 + 3) none) (Value.int IntKind.i64 (1 + n404)) → ∃ (R416 : List Own), ∃ (Φ417 : PW), Stable Φ417 ∧ Ctx W
  w415 (R416 ++ R414) Φ417 ∧ ∀ (w418 : World) (R419 : List Own), Ctx W w418 (R416 ++ R419) Φ417 → J (Value.bool true) w418) (∀ (w420 : World) (R421 : List Own), Ctx W w420 (R5 ++ R421) Φ6 →
  Calls Try.prog F.erratalaw08_cluster_arrive #[Value.pointer (some (Addr.mk xB xO none)), Value.int IntKind.i64 o2, Value.bool false] w420 fun (e422 : Ending) (w423 : World) => ∃ (c424 :
  Bool), e422 = Ending.returned (Value.bool c424) ∧ ∃ (R425 : List Own), ∃ (Φ426 : PW), Stable Φ426 ∧ Ctx W w423 (R425 ++ R421) Φ426 ∧ ∀ (w427 : World) (R428 : List Own), Ctx W w427 (R425 ++
  R428) Φ426 → J (Value.bool c424) w427)))))) (Br (decide (n7 = 11)) (∀ (w429 : World) (R430 : List Own), Ctx W w429 (R5 ++ R430) Φ6 → ∃ (p431 : Option Addr), ∃ (k432 : Nat), ∃ (k433 : Nat),
  w429.cell? (Addr.mk xB xO none) = some (Value.slice p431 k432 k433) ∧ (0 ≤ n4 ∧ n4 < (↑k432 : Int)) ∧ ptrK none p431 fun (k434 k435 : Nat) => ∀ (w436 : World) (R437 : List Own), Ctx W w436
  (R5 ++ R437) Φ6 → ∃ (p438 : Option Addr), w436.cell? (Addr.mk k434 (k435 + n4.toNat) none) = some (Value.pointer p438) ∧ ∀ (w439 : World) (R440 : List Own), Ctx W w439 (R5 ++ R440) Φ6 →
  Calls Try.prog F.replica_Replica_Tick #[Value.pointer p438] w439 fun (e441 : Ending) (w442 : World) => ∃ (c443 : Bool), ∃ (n444 : Int), ∃ (n445 : Int), ∃ (n446 : Int), ∃ (p447 : Option
  Addr), ∃ (k448 : Nat), ∃ (k449 : Nat), ∃ (p450 : Option Addr), ∃ (k451 : Nat), ∃ (k452 : Nat), e441 = Ending.returned (Value.agg #[Value.bool c443, Value.int IntKind.i64 n444, Value.int
  IntKind.i64 n445, Value.int IntKind.i64 n446, Value.slice p447 k448 k449, Value.slice p450 k451 k452]) ∧ ∃ (R453 : List Own), ∃ (Φ454 : PW), Stable Φ454 ∧ Ctx W w442 (R453 ++ R440) Φ454 ∧ ∀
  (w455 : World) (R456 : List Own), Ctx W w455 (R453 ++ R456) Φ454 → Calls Try.prog F.erratalaw08_cluster_done #[Value.pointer (some (Addr.mk xB xO none)), Value.int IntKind.i64 n4, Value.agg
  #[Value.bool c443, Value.int IntKind.i64 n444, Value.int IntKind.i64 n445, Value.int IntKind.i64 n446, Value.slice p447 k448 k449, Value.slice p450 k451 k452]] w455 fun (e457 : Ending)
  (w458 : World) => ∃ (c459 : Bool), e457 = Ending.returned (Value.bool c459) ∧ ∃ (R460 : List Own), ∃ (Φ461 : PW), Stable Φ461 ∧ Ctx W w458 (R460 ++ R456) Φ461 ∧ ∀ (w462 : World) (R463 :
  List Own), Ctx W w462 (R460 ++ R463) Φ461 → J (Value.bool c459) w462) (Br (decide (n7 = 12)) (Br (decide (n7 = 12)) (∃ (R464 : List Own), ∃ (Φ465 : PW), Stable Φ465 ∧ (∀ (w466 : World)
  (R467 : List Own), Ctx W w466 (R5 ++ R467) Φ6 → Ctx W w466 (R464 ++ R467) Φ465) ∧ ∃ (p468 : Option Addr), ∃ (k469 : Nat), ∃ (k470 : Nat), (∀ (w471 : World) (R472 : List Own), Ctx W w471
  (R464 ++ R472) Φ465 → ∃ (p473 : Option Addr), ∃ (k474 : Nat), ∃ (k475 : Nat), w471.cell? (Addr.mk xB xO none) = some (Value.slice p473 k474 k475) ∧ Value.slice p473 k474 k475 = Value.slice
  p468 k469 k470) ∧ (0 ≤ n4 ∧ n4 < (↑k469 : Int)) ∧ ptrK none p468 fun (k476 k477 : Nat) => ∃ (p478 : Option Addr), (∀ (w479 : World) (R480 : List Own), Ctx W w479 (R464 ++ R480) Φ465 → ∃
  (p481 : Option Addr), w479.cell? (Addr.mk k476 (k477 + n4.toNat) none) = some (Value.pointer p481) ∧ Value.pointer p481 = Value.pointer p478) ∧ (∀ (w482 : World) (R483 : List Own), Ctx W
  w482 (R5 ++ R483) Φ6 → Calls Try.prog F.replica_Replica_Propose #[Value.pointer p478, Value.string o3] w482 fun (e484 : Ending) (w485 : World) => ∃ (n486 : Int), ∃ (n487 : Int), ∃ (c488 :
  Bool), ∃ (n489 : Int), ∃ (n490 : Int), ∃ (n491 : Int), ∃ (p492 : Option Addr), ∃ (k493 : Nat), ∃ (k494 : Nat), ∃ (p495 : Option Addr), ∃ (k496 : Nat), ∃ (k497 : Nat), e484 = Ending.returned
  (Value.tuple #[Value.int IntKind.i64 n486, Value.int IntKind.i64 n487, Value.agg #[Value.bool c488, Value.int IntKind.i64 n489, Value.int IntKind.i64 n490, Value.int IntKind.i64 n491,
  Value.slice p492 k493 k494, Value.slice p495 k496 k497]]) ∧ ∃ (R498 : List Own), ∃ (Φ499 : PW), Stable Φ499 ∧ Ctx W w485 (R498 ++ R483) Φ499 ∧ (∀ (w500 : World) (R501 : List Own), Ctx W
  w500 (R498 ++ R501) Φ499 → Ctx W w500 (R464 ++ R501) Φ465) ∧ (∀ (k502 : Nat), (∀ (w503 : World) (R504 : List Own), Ctx W w503 (Own.blk k502 [Value.bool false, Value.int IntKind.i64 0,
  Value.int IntKind.i64 0, Value.int IntKind.i64 0, Value.slice none 0 0, Value.slice none 0 0] 45 :: R498 ++ R504) Φ499 → Ctx W w503 (R464 ++ R504) Φ465) ∧ (∀ (w505 : World) (R506 : List
  Own), Ctx W w505 (Own.blk k502 [Value.bool false, Value.int IntKind.i64 0, Value.int IntKind.i64 0, Value.int IntKind.i64 0, Value.slice none 0 0, Value.slice none 0 0] 45 :: R498 ++ R506)
  Φ499 → CanWrite w505 k502 0 6 ∧ ∀ (w507 : World), w507 = w505.setCells k502 0 [Value.bool c488, Value.int IntKind.i64 n489, Value.int IntKind.i64 n490, Value.int IntKind.i64 n491,
  Value.slice p492 k493 k494, Value.slice p495 k496 k497] → ∃ (R508 : List Own), ∃ (Φ509 : PW), Stable Φ509 ∧ Ctx W w507 (R508 ++ R506) Φ509 ∧ (∀ (w510 : World) (R511 : List Own), Ctx W w510
  (R508 ++ R511) Φ509 → Ctx W w510 (R464 ++ R511) Φ465) ∧ ∀ (w512 : World) (R513 : List Own), Ctx W w512 (R508 ++ R513) Φ509 → ∃ (c514 : Bool), ∃ (n515 : Int), ∃ (n516 : Int), ∃ (n517 : Int),
  ∃ (p518 : Option Addr), ∃ (k519 : Nat), ∃ (k520 : Nat), ∃ (p521 : Option Addr), ∃ (k522 : Nat), ∃ (k523 : Nat), RowAt w512 k502 0 [Value.bool c514, Value.int IntKind.i64 n515, Value.int
  IntKind.i64 n516, Value.int IntKind.i64 n517, Value.slice p518 k519 k520, Value.slice p521 k522 k523] ∧ ∀ (w524 : World) (R525 : List Own), Ctx W w524 (R508 ++ R525) Φ509 → Calls Try.prog
  F.erratalaw08_cluster_done #[Value.pointer (some (Addr.mk xB xO none)), Value.int IntKind.i64 n4, Value.agg #[Value.bool c514, Value.int IntKind.i64 n515, Value.int IntKind.i64 n516,
  Value.int IntKind.i64 n517, Value.slice p518 k519 k520, Value.slice p521 k522 k523]] w524 fun (e526 : Ending) (w527 : World) => ∃ (c528 : Bool), e526 = Ending.returned (Value.bool c528) ∧ ∃
  (R529 : List Own), ∃ (Φ530 : PW), Stable Φ530 ∧ Ctx W w527 (R529 ++ R525) Φ530 ∧ ∀ (w531 : World) (R532 : List Own), Ctx W w531 (R529 ++ R532) Φ530 → J (Value.bool c528) w531) ∧ True) ∧
  True) ∧ (∀ (k533 : Nat), (∀ (w534 : World) (R535 : List Own), Ctx W w534 (Own.blk k533 [Value.bool false, Value.int IntKind.i64 0, Value.int IntKind.i64 0, Value.int IntKind.i64 0,
  Value.slice none 0 0, Value.slice none 0 0] 45 :: R5 ++ R535) Φ6 → Ctx W w534 (R464 ++ R535) Φ465) ∧ (∀ (w536 : World) (R537 : List Own), Ctx W w536 (Own.blk k533 [Value.bool false,
  Value.int IntKind.i64 0, Value.int IntKind.i64 0, Value.int IntKind.i64 0, Value.slice none 0 0, Value.slice none 0 0] 45 :: R5 ++ R537) Φ6 → Calls Try.prog F.replica_Replica_Propose
  #[Value.pointer p478, Value.string o3] w536 fun (e538 : Ending) (w539 : World) => ∃ (n540 : Int), ∃ (n541 : Int), ∃ (c542 : Bool), ∃ (n543 : Int), ∃ (n544 : Int), ∃ (n545 : Int), ∃ (p546 :
  Option Addr), ∃ (k547 : Nat), ∃ (k548 : Nat), ∃ (p549 : Option Addr), ∃ (k550 : Nat), ∃ (k551 : Nat), e538 = Ending.returned (Value.tuple #[Value.int IntKind.i64 n540, Value.int IntKind.i64
  n541, Value.agg #[Value.bool c542, Value.int IntKind.i64 n543, Value.int IntKind.i64 n544, Value.int IntKind.i64 n545, Value.slice p546 k547 k548, Value.slice p549 k550 k551]]) ∧ ∃ (R552 :
  List Own), ∃ (Φ553 : PW), Stable Φ553 ∧ Ctx W w539 (R552 ++ R537) Φ553 ∧ (∀ (w554 : World) (R555 : List Own), Ctx W w554 (R552 ++ R555) Φ553 → Ctx W w554 (R464 ++ R555) Φ465) ∧ (∀ (w556 :
  World) (R557 : List Own), Ctx W w556 (R552 ++ R557) Φ553 → CanWrite w556 k533 0 6 ∧ ∀ (w558 : World), w558 = w556.setCells k533 0 [Value.bool c542, Value.int IntKind.i64 n543, Value.int
  IntKind.i64 n544, Value.int IntKind.i64 n545, Value.slice p546 k547 k548, Value.slice p549 k550 k551] → ∃ (R559 : List Own), ∃ (Φ560 : PW), Stable Φ560 ∧ Ctx W w558 (R559 ++ R557) Φ560 ∧ (∀
  (w561 : World) (R562 : List Own), Ctx W w561 (R559 ++ R562) Φ560 → Ctx W w561 (R464 ++ R562) Φ465) ∧ ∀ (w563 : World) (R564 : List Own), Ctx W w563 (R559 ++ R564) Φ560 → ∃ (c565 : Bool), ∃
  (n566 : Int), ∃ (n567 : Int), ∃ (n568 : Int), ∃ (p569 : Option Addr), ∃ (k570 : Nat), ∃ (k571 : Nat), ∃ (p572 : Option Addr), ∃ (k573 : Nat), ∃ (k574 : Nat), RowAt w563 k533 0 [Value.bool
  c565, Value.int IntKind.i64 n566, Value.int IntKind.i64 n567, Value.int IntKind.i64 n568, Value.slice p569 k570 k571, Value.slice p572 k573 k574] ∧ ∀ (w575 : World) (R576 : List Own), Ctx W
  w575 (R559 ++ R576) Φ560 → Calls Try.prog F.erratalaw08_cluster_done #[Value.pointer (some (Addr.mk xB xO none)), Value.int IntKind.i64 n4, Value.agg #[Value.bool c565, Value.int
  IntKind.i64 n566, Value.int IntKind.i64 n567, Value.int IntKind.i64 n568, Value.slice p569 k570 k571, Value.slice p572 k573 k574]] w575 fun (e577 : Ending) (w578 : World) => ∃ (c579 :
  Bool), e577 = Ending.returned (Value.bool c579) ∧ ∃ (R580 : List Own), ∃ (Φ581 : PW), Stable Φ581 ∧ Ctx W w578 (R580 ++ R576) Φ581 ∧ ∀ (w582 : World) (R583 : List Own), Ctx W w582 (R580 ++
  R583) Φ581 → J (Value.bool c579) w582) ∧ True) ∧ True) ∧ True) (Br (decide (n7 = 14)) (∀ (w584 : World) (R585 : List Own), Ctx W w584 (R5 ++ R585) Φ6 → Calls Try.prog
  F.erratalaw08_cluster_start #[Value.pointer (some (Addr.mk xB xO none)), Value.int IntKind.i64 n4] w584 fun (e586 : Ending) (w587 : World) => ∃ (c588 : Bool), e586 = Ending.returned
  (Value.bool c588) ∧ ∃ (R589 : List Own), ∃ (Φ590 : PW), Stable Φ590 ∧ Ctx W w587 (R589 ++ R585) Φ590 ∧ ∀ (w591 : World) (R592 : List Own), Ctx W w591 (R589 ++ R592) Φ590 → J (Value.bool
  c588) w591) (Br (decide (n7 = 15)) (∃ (n593 : Int), (∀ (w594 : World), Sem.run Try.prog (binOp BinOp.and 3 (Value.int IntKind.i64 o2) (Value.int IntKind.i64 1)) w594 = Result.ok (Value.int
  IntKind.i64 n593) w594) ∧ ∀ (w595 : World) (R596 : List Own), Ctx W w595 (R5 ++ R596) Φ6 → ∃ (p597 : Option Addr), ∃ (k598 : Nat), ∃ (k599 : Nat), w595.cell? (Addr.mk xB (xO + 1) none) =
  some (Value.slice p597 k598 k599) ∧ I64 (1 + n593) ∧ (0 ≤ n4 ∧ n4 < (↑k598 : Int)) ∧ ptrK none p597 fun (k600 k601 : Nat) => ∀ (w602 : World) (R603 : List Own), Ctx W w602 (R5 ++ R603) Φ6 →
  CanWrite w602 k600 (k601 + n4.toNat * 4 + 3) 1 ∧ ∀ (w604 : World), w604 = w602.setCell (Addr.mk k600 (k601 + n4.toNat * 4 + 3) none) (Value.int IntKind.i64 (1 + n593)) → ∃ (R605 : List
  Own), ∃ (Φ606 : PW), Stable Φ606 ∧ Ctx W w604 (R605 ++ R603) Φ606 ∧ ∀ (w607 : World) (R608 : List Own), Ctx W w607 (R605 ++ R608) Φ606 → J (Value.bool true) w607) (∀ (w609 : World) (R610 :
  List Own), Ctx W w609 (R5 ++ R610) Φ6 → Calls Try.prog F.erratalaw08_cluster_arrive #[Value.pointer (some (Addr.mk xB xO none)), Value.int IntKind.i64 o2, Value.bool false] w609 fun (e611 :
  Ending) (w612 : World) => ∃ (c613 : Bool), e611 = Ending.returned (Value.bool c613) ∧ ∃ (R614 : List Own), ∃ (Φ615 : PW), Stable Φ615 ∧ Ctx W w612 (R614 ++ R610) Φ615 ∧ ∀ (w616 : World)
  (R617 : List Own), Ctx W w616 (R614 ++ R617) Φ615 → J (Value.bool c613) w616)))) (Br (decide (n7 = 13)) (∃ (R618 : List Own), ∃ (Φ619 : PW), Stable Φ619 ∧ (∀ (w620 : World) (R621 : List
  Own), Ctx W w620 (R5 ++ R621) Φ6 → Ctx W w620 (R618 ++ R621) Φ619) ∧ ∃ (p622 : Option Addr), ∃ (k623 : Nat), ∃ (k624 : Nat), (∀ (w625 : World) (R626 : List Own), Ctx W w625 (R618 ++ R626)
  Φ619 → ∃ (p627 : Option Addr), ∃ (k628 : Nat), ∃ (k629 : Nat), w625.cell? (Addr.mk xB xO none) = some (Value.slice p627 k628 k629) ∧ Value.slice p627 k628 k629 = Value.slice p622 k623 k624)
  ∧ (0 ≤ n4 ∧ n4 < (↑k623 : Int)) ∧ ptrK none p622 fun (k630 k631 : Nat) => ∃ (p632 : Option Addr), (∀ (w633 : World) (R634 : List Own), Ctx W w633 (R618 ++ R634) Φ619 → ∃ (p635 : Option
  Addr), w633.cell? (Addr.mk k630 (k631 + n4.toNat) none) = some (Value.pointer p635) ∧ Value.pointer p635 = Value.pointer p632) ∧ (∀ (w636 : World) (R637 : List Own), Ctx W w636 (R5 ++ R637)
  Φ6 → Calls Try.prog F.replica_Replica_Propose #[Value.pointer p632, Value.string o3] w636 fun (e638 : Ending) (w639 : World) => ∃ (n640 : Int), ∃ (n641 : Int), ∃ (c642 : Bool), ∃ (n643 :
  Int), ∃ (n644 : Int), ∃ (n645 : Int), ∃ (p646 : Option Addr), ∃ (k647 : Nat), ∃ (k648 : Nat), ∃ (p649 : Option Addr), ∃ (k650 : Nat), ∃ (k651 : Nat), e638 = Ending.returned (Value.tuple
  #[Value.int IntKind.i64 n640, Value.int IntKind.i64 n641, Value.agg #[Value.bool c642, Value.int IntKind.i64 n643, Value.int IntKind.i64 n644, Value.int IntKind.i64 n645, Value.slice p646
  k647 k648, Value.slice p649 k650 k651]]) ∧ ∃ (R652 : List Own), ∃ (Φ653 : PW), Stable Φ653 ∧ Ctx W w639 (R652 ++ R637) Φ653 ∧ (∀ (w654 : World) (R655 : List Own), Ctx W w654 (R652 ++ R655)
  Φ653 → Ctx W w654 (R618 ++ R655) Φ619) ∧ (∀ (k656 : Nat), (∀ (w657 : World) (R658 : List Own), Ctx W w657 (Own.blk k656 [Value.bool false, Value.int IntKind.i64 0, Value.int IntKind.i64 0,
  Value.int IntKind.i64 0, Value.slice none 0 0, Value.slice none 0 0] 45 :: R652 ++ R658) Φ653 → Ctx W w657 (R618 ++ R658) Φ619) ∧ (∀ (w659 : World) (R660 : List Own), Ctx W w659 (Own.blk
  k656 [Value.bool false, Value.int IntKind.i64 0, Value.int IntKind.i64 0, Value.int IntKind.i64 0, Value.slice none 0 0, Value.slice none 0 0] 45 :: R652 ++ R660) Φ653 → CanWrite w659 k656
  0 6 ∧ ∀ (w661 : World), w661 = w659.setCells k656 0 [Value.bool c642, Value.int IntKind.i64 n643, Value.int IntKind.i64 n644, Value.int IntKind.i64 n645, Value.slice p646 k647 k648,
  Value.slice p649 k650 k651] → ∃ (R662 : List Own), ∃ (Φ663 : PW), Stable Φ663 ∧ Ctx W w661 (R662 ++ R660) Φ663 ∧ (∀ (w664 : World) (R665 : List Own), Ctx W w664 (R662 ++ R665) Φ663 → Ctx W
  w664 (R618 ++ R665) Φ619) ∧ ∀ (w666 : World) (R667 : List Own), Ctx W w666 (R662 ++ R667) Φ663 → ∃ (c668 : Bool), ∃ (n669 : Int), ∃ (n670 : Int), ∃ (n671 : Int), ∃ (p672 : Option Addr), ∃
  (k673 : Nat), ∃ (k674 : Nat), ∃ (p675 : Option Addr), ∃ (k676 : Nat), ∃ (k677 : Nat), RowAt w666 k656 0 [Value.bool c668, Value.int IntKind.i64 n669, Value.int IntKind.i64 n670, Value.int
  IntKind.i64 n671, Value.slice p672 k673 k674, Value.slice p675 k676 k677] ∧ ∀ (w678 : World) (R679 : List Own), Ctx W w678 (R662 ++ R679) Φ663 → Calls Try.prog F.erratalaw08_cluster_done
  #[Value.pointer (some (Addr.mk xB xO none)), Value.int IntKind.i64 n4, Value.agg #[Value.bool c668, Value.int IntKind.i64 n669, Value.int IntKind.i64 n670, Value.int IntKind.i64 n671,
  Value.slice p672 k673 k674, Value.slice p675 k676 k677]] w678 fun (e680 : Ending) (w681 : World) => ∃ (c682 : Bool), e680 = Ending.returned (Value.bool c682) ∧ ∃ (R683 : List Own), ∃ (Φ684
  : PW), Stable Φ684 ∧ Ctx W w681 (R683 ++ R679) Φ684 ∧ ∀ (w685 : World) (R686 : List Own), Ctx W w685 (R683 ++ R686) Φ684 → J (Value.bool c682) w685) ∧ True) ∧ True) ∧ (∀ (k687 : Nat), (∀
  (w688 : World) (R689 : List Own), Ctx W w688 (Own.blk k687 [Value.bool false, Value.int IntKind.i64 0, Value.int IntKind.i64 0, Value.int IntKind.i64 0, Value.slice none 0 0, Value.slice
  none 0 0] 45 :: R5 ++ R689) Φ6 → Ctx W w688 (R618 ++ R689) Φ619) ∧ (∀ (w690 : World) (R691 : List Own), Ctx W w690 (Own.blk k687 [Value.bool false, Value.int IntKind.i64 0, Value.int
  IntKind.i64 0, Value.int IntKind.i64 0, Value.slice none 0 0, Value.slice none 0 0] 45 :: R5 ++ R691) Φ6 → Calls Try.prog F.replica_Replica_Propose #[Value.pointer p632, Value.string o3]
  w690 fun (e692 : Ending) (w693 : World) => ∃ (n694 : Int), ∃ (n695 : Int), ∃ (c696 : Bool), ∃ (n697 : Int), ∃ (n698 : Int), ∃ (n699 : Int), ∃ (p700 : Option Addr), ∃ (k701 : Nat), ∃ (k702 :
  Nat), ∃ (p703 : Option Addr), ∃ (k704 : Nat), ∃ (k705 : Nat), e692 = Ending.returned (Value.tuple #[Value.int IntKind.i64 n694, Value.int IntKind.i64 n695, Value.agg #[Value.bool c696,
  Value.int IntKind.i64 n697, Value.int IntKind.i64 n698, Value.int IntKind.i64 n699, Value.slice p700 k701 k702, Value.slice p703 k704 k705]]) ∧ ∃ (R706 : List Own), ∃ (Φ707 : PW), Stable
  Φ707 ∧ Ctx W w693 (R706 ++ R691) Φ707 ∧ (∀ (w708 : World) (R709 : List Own), Ctx W w708 (R706 ++ R709) Φ707 → Ctx W w708 (R618 ++ R709) Φ619) ∧ (∀ (w710 : World) (R711 : List Own), Ctx W
  w710 (R706 ++ R711) Φ707 → CanWrite w710 k687 0 6 ∧ ∀ (w712 : World), w712 = w710.setCells k687 0 [Value.bool c696, Value.int IntKind.i64 n697, Value.int IntKind.i64 n698, Value.int
  IntKind.i64 n699, Value.slice p700 k701 k702, Value.slice p703 k704 k705] → ∃ (R713 : List Own), ∃ (Φ714 : PW), Stable Φ714 ∧ Ctx W w712 (R713 ++ R711) Φ714 ∧ (∀ (w715 : World) (R716 : List
  Own), Ctx W w715 (R713 ++ R716) Φ714 → Ctx W w715 (R618 ++ R716) Φ619) ∧ ∀ (w717 : World) (R718 : List Own), Ctx W w717 (R713 ++ R718) Φ714 → ∃ (c719 : Bool), ∃ (n720 : Int), ∃ (n721 :
  Int), ∃ (n722 : Int), ∃ (p723 : Option Addr), ∃ (k724 : Nat), ∃ (k725 : Nat), ∃ (p726 : Option Addr), ∃ (k727 : Nat), ∃ (k728 : Nat), RowAt w717 k687 0 [Value.bool c719, Value.int
  IntKind.i64 n720, Value.int IntKind.i64 n721, Value.int IntKind.i64 n722, Value.slice p723 k724 k725, Value.slice p726 k727 k728] ∧ ∀ (w729 : World) (R730 : List Own), Ctx W w729 (R713 ++
  R730) Φ714 → Calls Try.prog F.erratalaw08_cluster_done #[Value.pointer (some (Addr.mk xB xO none)), Value.int IntKind.i64 n4, Value.agg #[Value.bool c719, Value.int IntKind.i64 n720,
  Value.int IntKind.i64 n721, Value.int IntKind.i64 n722, Value.slice p723 k724 k725, Value.slice p726 k727 k728]] w729 fun (e731 : Ending) (w732 : World) => ∃ (c733 : Bool), e731 =
  Ending.returned (Value.bool c733) ∧ ∃ (R734 : List Own), ∃ (Φ735 : PW), Stable Φ735 ∧ Ctx W w732 (R734 ++ R730) Φ735 ∧ ∀ (w736 : World) (R737 : List Own), Ctx W w736 (R734 ++ R737) Φ735 → J
  (Value.bool c733) w736) ∧ True) ∧ True) ∧ True) (Br (decide (n7 = 14)) (∀ (w738 : World) (R739 : List Own), Ctx W w738 (R5 ++ R739) Φ6 → Calls Try.prog F.erratalaw08_cluster_start
  #[Value.pointer (some (Addr.mk xB xO none)), Value.int IntKind.i64 n4] w738 fun (e740 : Ending) (w741 : World) => ∃ (c742 : Bool), e740 = Ending.returned (Value.bool c742) ∧ ∃ (R743 : List
  Own), ∃ (Φ744 : PW), Stable Φ744 ∧ Ctx W w741 (R743 ++ R739) Φ744 ∧ ∀ (w745 : World) (R746 : List Own), Ctx W w745 (R743 ++ R746) Φ744 → J (Value.bool c742) w745) (Br (decide (n7 = 15)) (∃
  (n747 : Int), (∀ (w748 : World), Sem.run Try.prog (binOp BinOp.and 3 (Value.int IntKind.i64 o2) (Value.int IntKind.i64 1)) w748 = Result.ok (Value.int IntKind.i64 n747) w748) ∧ ∀ (w749 :
  World) (R750 : List Own), Ctx W w749 (R5 ++ R750) Φ6 → ∃ (p751 : Option Addr), ∃ (k752 : Nat), ∃ (k753 : Nat), w749.cell? (Addr.mk xB (xO + 1) none) = some (Value.slice p751 k752 k753) ∧
  I64 (1 + n747) ∧ (0 ≤ n4 ∧ n4 < (↑k752 : Int)) ∧ ptrK none p751 fun (k754 k755 : Nat) => ∀ (w756 : World) (R757 : List Own), Ctx W w756 (R5 ++ R757) Φ6 → CanWrite w756 k754 (k755 + n4.toNat
  * 4 + 3) 1 ∧ ∀ (w758 : World), w758 = w756.setCell (Addr.mk k754 (k755 + n4.toNat * 4 + 3) none) (Value.int IntKind.i64 (1 + n747)) → ∃ (R759 : List Own), ∃ (Φ760 : PW), Stable Φ760 ∧ Ctx W
  w758 (R759 ++ R757) Φ760 ∧ ∀ (w761 : World) (R762 : List Own), Ctx W w761 (R759 ++ R762) Φ760 → J (Value.bool true) w761) (∀ (w763 : World) (R764 : List Own), Ctx W w763 (R5 ++ R764) Φ6 →
  Calls Try.prog F.erratalaw08_cluster_arrive #[Value.pointer (some (Addr.mk xB xO none)), Value.int IntKind.i64 o2, Value.bool false] w763 fun (e765 : Ending) (w766 : World) => ∃ (c767 :
  Bool), e765 = Ending.returned (Value.bool c767) ∧ ∃ (R768 : List Own), ∃ (Φ769 : PW), Stable Φ769 ∧ Ctx W w766 (R768 ++ R764) Φ769 ∧ ∀ (w770 : World) (R771 : List Own), Ctx W w770 (R768 ++
  R771) Φ769 → J (Value.bool c767) w770))))))))

/-- (*erratalaw08.cluster).done -/
-- loop at region 10: 7 k; blocks 
-- cut 5: ; blocks 
-- cut 7: ; blocks 
-- known blocks: 5 o
def Berratalaw08_cluster_done (xB xO : Nat) (i : Int) (o0 : Bool) (o1 : Int) (o2 : Int) (o3 : Int) (o4P : Option Addr) (o4N o4C : Nat) (o5P : Option Addr) (o5N o5C : Nat) (W : World) (R : List Own) (Φ : PW) (J : Value → World → Prop) : Prop :=
  ∀ (b : Nat) (w0 : World) (R1 : List Own), Ctx W w0 (R ++ R1) Φ → ∃ (p2 : Option Addr), ∃ (k3 : Nat), ∃ (k4 : Nat), w0.cell? (Addr.mk xB (xO + 1) none) = some (Value.slice p2 k3 k4) ∧ (0 ≤ i
  ∧ i < (↑k3 : Int)) ∧ ptrK none p2 fun (k5 k6 : Nat) => ∀ (w7 : World) (R8 : List Own), Ctx W w7 (R ++ R8) Φ → ∃ (n9 : Int), w7.cell? (Addr.mk k5 (k6 + i.toNat * 4 + 3) none) = some
  (Value.int IntKind.i64 n9) ∧ Br (decide (n9 = 1)) (∀ (w10 : World) (R11 : List Own), Ctx W w10 (R ++ R11) Φ → Calls Try.prog F.erratalaw08_cluster_start #[Value.pointer (some (Addr.mk xB xO
  none)), Value.int IntKind.i64 i] w10 fun (e12 : Ending) (w13 : World) => ∃ (c14 : Bool), e12 = Ending.returned (Value.bool c14) ∧ ∃ (R15 : List Own), ∃ (Φ16 : PW), Stable Φ16 ∧ Ctx W w13
  (R15 ++ R11) Φ16 ∧ ∀ (w17 : World) (R18 : List Own), Ctx W w17 (R15 ++ R18) Φ16 → J (Value.bool c14) w17) (exI fun (I19 : List Own → PW → Prop) => Br o0 (∀ (w20 : World) (R21 : List Own),
  Ctx W w20 (R ++ R21) Φ → ∃ (p22 : Option Addr), ∃ (k23 : Nat), ∃ (k24 : Nat), w20.cell? (Addr.mk xB (xO + 1) none) = some (Value.slice p22 k23 k24) ∧ (0 ≤ i ∧ i < (↑k23 : Int)) ∧ ptrK none
  p22 fun (k25 k26 : Nat) => ∀ (w27 : World) (R28 : List Own), Ctx W w27 (R ++ R28) Φ → CanWrite w27 k25 (k26 + i.toNat * 4) 2 ∧ ∀ (w29 : World), w29 = w27.setCells k25 (k26 + i.toNat * 4)
  [Value.int IntKind.i64 o1, Value.int IntKind.i64 o2] → ∃ (R30 : List Own), ∃ (Φ31 : PW), Stable Φ31 ∧ Ctx W w29 (R30 ++ R28) Φ31 ∧ ∃ (R32 : List Own), ∃ (Φ33 : PW), Stable Φ33 ∧ (∀ (w34 :
  World) (R35 : List Own), Ctx W w34 (R30 ++ R35) Φ31 → Ctx W w34 (R32 ++ R35) Φ33) ∧ I19 R32 Φ33) (∃ (R36 : List Own), ∃ (Φ37 : PW), Stable Φ37 ∧ (∀ (w38 : World) (R39 : List Own), Ctx W w38
  (R ++ R39) Φ → Ctx W w38 (R36 ++ R39) Φ37) ∧ I19 R36 Φ37) ∧ ∀ (R40 : List Own) (I41 : List Nat → World → Prop), Stable I41 → I19 R40 I41 → exI fun (I42 : List Own → PW → Prop) => Br (decide
  (0 < o3)) (∃ (R43 : List Own), ∃ (Φ44 : PW), Stable Φ44 ∧ (∀ (w45 : World) (R46 : List Own), Ctx W w45 (R40 ++ R46) I41 → Ctx W w45 (R43 ++ R46) Φ44) ∧ I64 (o3 - 1) ∧ ∃ (p47 : Option Addr),
  ∃ (k48 : Nat), ∃ (k49 : Nat), (∀ (w50 : World) (R51 : List Own), Ctx W w50 (R43 ++ R51) Φ44 → ∃ (p52 : Option Addr), ∃ (k53 : Nat), ∃ (k54 : Nat), w50.cell? (Addr.mk xB (xO + 1) none) =
  some (Value.slice p52 k53 k54) ∧ Value.slice p52 k53 k54 = Value.slice p47 k48 k49) ∧ ∃ (p55 : Option Addr), ∃ (k56 : Nat), ∃ (k57 : Nat), (∀ (w58 : World) (R59 : List Own), Ctx W w58 (R43
  ++ R59) Φ44 → ∃ (p60 : Option Addr), ∃ (k61 : Nat), ∃ (k62 : Nat), w58.cell? (Addr.mk xB (xO + 1) none) = some (Value.slice p60 k61 k62) ∧ Value.slice p60 k61 k62 = Value.slice p55 k56 k57)
  ∧ ∃ (p63 : Option Addr), ∃ (k64 : Nat), ∃ (k65 : Nat), (∀ (w66 : World) (R67 : List Own), Ctx W w66 (R43 ++ R67) Φ44 → ∃ (p68 : Option Addr), ∃ (k69 : Nat), ∃ (k70 : Nat), w66.cell?
  (Addr.mk xB (xO + 1) none) = some (Value.slice p68 k69 k70) ∧ Value.slice p68 k69 k70 = Value.slice p63 k64 k65) ∧ (0 ≤ i ∧ i < (↑k56 : Int)) ∧ ptrK none p55 fun (k71 k72 : Nat) => (0 ≤ i ∧
  i < (↑k64 : Int)) ∧ ptrK none p63 fun (k73 k74 : Nat) => ∃ (p75 : Option Addr), ∃ (k76 : Nat), ∃ (k77 : Nat), (∀ (w78 : World) (R79 : List Own), Ctx W w78 (R43 ++ R79) Φ44 → ∃ (p80 : Option
  Addr), ∃ (k81 : Nat), ∃ (k82 : Nat), w78.cell? (Addr.mk k71 (k72 + i.toNat * 4 + 2) none) = some (Value.slice p80 k81 k82) ∧ Value.slice p80 k81 k82 = Value.slice p75 k76 k77) ∧ ∃ (p83 :
  Option Addr), ∃ (k84 : Nat), ∃ (k85 : Nat), (∀ (w86 : World) (R87 : List Own), Ctx W w86 (R43 ++ R87) Φ44 → ∃ (p88 : Option Addr), ∃ (k89 : Nat), ∃ (k90 : Nat), w86.cell? (Addr.mk k73 (k74
  + i.toNat * 4 + 2) none) = some (Value.slice p88 k89 k90) ∧ Value.slice p88 k89 k90 = Value.slice p83 k84 k85) ∧ (0 ≤ min (o3 - 1) (↑k84 : Int) ∧ min (o3 - 1) (↑k84 : Int) ≤ (↑k77 : Int)) ∧
  ∀ (k91 : Nat), (∀ (w92 : World) (R93 : List Own), Ctx W w92 (Own.blk k91 [] 55 :: R40 ++ R93) I41 → Ctx W w92 (R43 ++ R93) Φ44) ∧ ∀ (w94 : World) (R95 : List Own), Ctx W w94 (Own.blk k91 []
  55 :: R40 ++ R95) I41 → ∃ (p96 : Option Addr), ∃ (k97 : Nat), ∃ (k98 : Nat), ∃ (w99 : World), Sem.run Try.prog (builtin Builtin.append #[35, 35] 35 #[false, false] #[Value.slice (some
  (Addr.mk k91 0 none)) 0 0, Value.slice (subPtr p75 2 0 k77) (min (o3 - 1) (↑k84 : Int)).toNat k77]) w94 = Result.ok (Next.value (Value.slice p96 k97 k98)) w99 ∧ ∃ (R100 : List Own), ∃ (Φ101
  : PW), Stable Φ101 ∧ Ctx W w99 (R100 ++ R95) Φ101 ∧ (∀ (w102 : World) (R103 : List Own), Ctx W w102 (R100 ++ R103) Φ101 → Ctx W w102 (R43 ++ R103) Φ44) ∧ ∀ (w104 : World) (R105 : List Own),
  Ctx W w104 (R100 ++ R105) Φ101 → ∃ (p106 : Option Addr), ∃ (k107 : Nat), ∃ (k108 : Nat), ∃ (w109 : World), Sem.run Try.prog (builtin Builtin.append #[35, 35] 35 #[false, false]
  #[Value.slice p96 k97 k98, Value.slice o4P o4N o4C]) w104 = Result.ok (Next.value (Value.slice p106 k107 k108)) w109 ∧ ∃ (R110 : List Own), ∃ (Φ111 : PW), Stable Φ111 ∧ Ctx W w109 (R110 ++
  R105) Φ111 ∧ (∀ (w112 : World) (R113 : List Own), Ctx W w112 (R110 ++ R113) Φ111 → Ctx W w112 (R43 ++ R113) Φ44) ∧ (0 ≤ i ∧ i < (↑k48 : Int)) ∧ ptrK none p47 fun (k114 k115 : Nat) => ∀
  (w116 : World) (R117 : List Own), Ctx W w116 (R110 ++ R117) Φ111 → CanWrite w116 k114 (k115 + i.toNat * 4 + 2) 1 ∧ ∀ (w118 : World), w118 = w116.setCell (Addr.mk k114 (k115 + i.toNat * 4 +
  2) none) (Value.slice p106 k107 k108) → ∃ (R119 : List Own), ∃ (Φ120 : PW), Stable Φ120 ∧ Ctx W w118 (R119 ++ R117) Φ120 ∧ ∃ (R121 : List Own), ∃ (Φ122 : PW), Stable Φ122 ∧ (∀ (w123 :
  World) (R124 : List Own), Ctx W w123 (R119 ++ R124) Φ120 → Ctx W w123 (R121 ++ R124) Φ122) ∧ I42 R121 Φ122) (∃ (R125 : List Own), ∃ (Φ126 : PW), Stable Φ126 ∧ (∀ (w127 : World) (R128 : List
  Own), Ctx W w127 (R40 ++ R128) I41 → Ctx W w127 (R125 ++ R128) Φ126) ∧ I42 R125 Φ126) ∧ ∀ (R129 : List Own) (I130 : List Nat → World → Prop), Stable I130 → I42 R129 I130 → ∀ (w131 : World)
  (R132 : List Own), Ctx W w131 (R129 ++ R132) I130 → ∃ (p133 : Option Addr), ∃ (k134 : Nat), ∃ (k135 : Nat), w131.cell? (Addr.mk xB (xO + 1) none) = some (Value.slice p133 k134 k135) ∧ (0 ≤
  i ∧ i < (↑k134 : Int)) ∧ ptrK none p133 fun (k136 k137 : Nat) => ∀ (w138 : World) (R139 : List Own), Ctx W w138 (R129 ++ R139) I130 → ∃ (n140 : Int), w138.cell? (Addr.mk k136 (k137 +
  i.toNat * 4 + 3) none) = some (Value.int IntKind.i64 n140) ∧ Br (decide (n140 = 2)) (∀ (w141 : World) (R142 : List Own), Ctx W w141 (R129 ++ R142) I130 → Calls Try.prog
  F.erratalaw08_cluster_start #[Value.pointer (some (Addr.mk xB xO none)), Value.int IntKind.i64 i] w141 fun (e143 : Ending) (w144 : World) => ∃ (c145 : Bool), e143 = Ending.returned
  (Value.bool c145) ∧ ∃ (R146 : List Own), ∃ (Φ147 : PW), Stable Φ147 ∧ Ctx W w144 (R146 ++ R142) Φ147 ∧ ∀ (w148 : World) (R149 : List Own), Ctx W w148 (R146 ++ R149) Φ147 → J (Value.bool
  c145) w148) (exI fun (I150 : Int → List Own → PW → Nat → Prop) => (∃ (R151 : List Own), ∃ (Φ152 : PW), ∃ (k153 : Nat), Stable Φ152 ∧ (∀ (w154 : World) (R155 : List Own), Ctx W w154 (R129 ++
  R155) I130 → Ctx W w154 (R151 ++ R155) Φ152) ∧ I150 0 R151 Φ152 k153) ∧ ∀ (n156 : Int) (R157 : List Own) (I158 : List Nat → World → Prop) (k159 : Nat), Stable I158 → I150 n156 R157 I158
  k159 → ∀ (w160 : World) (R161 : List Own), Ctx W w160 (R157 ++ R161) I158 → ∃ (p162 : Option Addr), ∃ (k163 : Nat), ∃ (k164 : Nat), (decide (n156 < (↑o5N : Int)) = true → w160.cell?
  (Addr.mk xB (xO + 2) none) = some (Value.slice p162 k163 k164)) ∧ Br (decide (n156 < (↑o5N : Int)) && decide ((↑k163 : Int) < 300)) (∃ (R165 : List Own), ∃ (Φ166 : PW), Stable Φ166 ∧ (∀
  (w167 : World) (R168 : List Own), Ctx W w167 (R157 ++ R168) I158 → Ctx W w167 (R165 ++ R168) Φ166) ∧ (0 ≤ n156 ∧ n156 < (↑o5N : Int)) ∧ ptrK none o5P fun (k169 k170 : Nat) => ∃ (p171 :
  Option Addr), ∃ (k172 : Nat), ∃ (k173 : Nat), (∀ (w174 : World) (R175 : List Own), Ctx W w174 (R165 ++ R175) Φ166 → ∃ (p176 : Option Addr), ∃ (k177 : Nat), ∃ (k178 : Nat), w174.cell?
  (Addr.mk xB (xO + 2) none) = some (Value.slice p176 k177 k178) ∧ Value.slice p176 k177 k178 = Value.slice p171 k172 k173) ∧ ∃ (n179 : Int), ∃ (n180 : Int), ∃ (n181 : Int), ∃ (n182 : Int), ∃
  (n183 : Int), ∃ (n184 : Int), ∃ (n185 : Int), ∃ (c186 : Bool), ∃ (p187 : Option Addr), ∃ (k188 : Nat), ∃ (k189 : Nat), (∀ (w190 : World) (R191 : List Own), Ctx W w190 (R165 ++ R191) Φ166 →
  ∃ (n192 : Int), ∃ (n193 : Int), ∃ (n194 : Int), ∃ (n195 : Int), ∃ (n196 : Int), ∃ (n197 : Int), ∃ (n198 : Int), ∃ (c199 : Bool), ∃ (p200 : Option Addr), ∃ (k201 : Nat), ∃ (k202 : Nat),
  RowAt w190 k169 (k170 + n156.toNat * 9) [Value.int IntKind.i64 n192, Value.int IntKind.i64 n193, Value.int IntKind.i64 n194, Value.int IntKind.i64 n195, Value.int IntKind.i64 n196,
  Value.int IntKind.i64 n197, Value.int IntKind.i64 n198, Value.bool c199, Value.slice p200 k201 k202] ∧ Value.agg #[Value.int IntKind.i64 n192, Value.int IntKind.i64 n193, Value.int
  IntKind.i64 n194, Value.int IntKind.i64 n195, Value.int IntKind.i64 n196, Value.int IntKind.i64 n197, Value.int IntKind.i64 n198, Value.bool c199, Value.slice p200 k201 k202] = Value.agg
  #[Value.int IntKind.i64 n179, Value.int IntKind.i64 n180, Value.int IntKind.i64 n181, Value.int IntKind.i64 n182, Value.int IntKind.i64 n183, Value.int IntKind.i64 n184, Value.int
  IntKind.i64 n185, Value.bool c186, Value.slice p187 k188 k189]) ∧ ∀ (k203 : Nat), (∀ (w204 : World) (R205 : List Own), Ctx W w204 (Own.blk k203 [Value.int IntKind.i64 n179, Value.int
  IntKind.i64 n180, Value.int IntKind.i64 n181, Value.int IntKind.i64 n182, Value.int IntKind.i64 n183, Value.int IntKind.i64 n184, Value.int IntKind.i64 n185, Value.bool c186, Value.slice
  p187 k188 k189] 37 :: R157 ++ R205) I158 → Ctx W w204 (R165 ++ R205) Φ166) ∧ ∀ (w206 : World) (R207 : List Own), Ctx W w206 (Own.blk k203 [Value.int IntKind.i64 n179, Value.int IntKind.i64
  n180, Value.int IntKind.i64 n181, Value.int IntKind.i64 n182, Value.int IntKind.i64 n183, Value.int IntKind.i64 n184, Value.int IntKind.i64 n185, Value.bool c186, Value.slice p187 k188
  k189] 37 :: R157 ++ R207) I158 → ∃ (p208 : Option Addr), ∃ (k209 : Nat), ∃ (k210 : Nat), ∃ (w211 : World), Sem.run Try.prog (builtin Builtin.append #[27, 27] 27 #[false, false]
  #[Value.slice p171 k172 k173, Value.slice (some (Addr.mk k203 0 none)) 1 1]) w206 = Result.ok (Next.value (Value.slice p208 k209 k210)) w211 ∧ ∃ (R212 : List Own), ∃ (Φ213 : PW), Stable
  Φ213 ∧ Ctx W w211 (R212 ++ R207) Φ213 ∧ (∀ (w214 : World) (R215 : List Own), Ctx W w214 (R212 ++ R215) Φ213 → Ctx W w214 (R165 ++ R215) Φ166) ∧ ∀ (w216 : World) (R217 : List Own), Ctx W
  w216 (R212 ++ R217) Φ213 → CanWrite w216 xB (xO + 2) 1 ∧ ∀ (w218 : World), w218 = w216.setCell (Addr.mk xB (xO + 2) none) (Value.slice p208 k209 k210) → ∃ (R219 : List Own), ∃ (Φ220 : PW),
  Stable Φ220 ∧ Ctx W w218 (R219 ++ R217) Φ220 ∧ I64 (n156 + 1) ∧ ∃ (R221 : List Own), ∃ (Φ222 : PW), ∃ (k223 : Nat), Stable Φ222 ∧ (∀ (w224 : World) (R225 : List Own), Ctx W w224 (R219 ++
  R225) Φ220 → Ctx W w224 (R221 ++ R225) Φ222) ∧ I150 (n156 + 1) R221 Φ222 k223 ∧ k223 < k159) (∀ (w226 : World) (R227 : List Own), Ctx W w226 (R157 ++ R227) I158 → J (Value.bool true)
  w226)))

/-- errataref08.SameRecs -/
-- loop at region 4: 5 i; blocks 
def Berrataref08_SameRecs (aP : Option Addr) (aN aC : Nat) (bP : Option Addr) (bN bC : Nat) (W : World) (R : List Own) (Φ : PW) (J : Value → World → Prop) : Prop :=
  Br (decide ((↑aN : Int) ≠ (↑bN : Int))) (∀ (w0 : World) (R1 : List Own), Ctx W w0 (R ++ R1) Φ → J (Value.bool false) w0) (exI fun (I2 : Int → List Own → PW → Nat → Prop) => (∃ (R3 : List
  Own), ∃ (Φ4 : PW), ∃ (k5 : Nat), Stable Φ4 ∧ (∀ (w6 : World) (R7 : List Own), Ctx W w6 (R ++ R7) Φ → Ctx W w6 (R3 ++ R7) Φ4) ∧ I2 0 R3 Φ4 k5) ∧ ∀ (n8 : Int) (R9 : List Own) (I10 : List Nat
  → World → Prop) (k11 : Nat), Stable I10 → I2 n8 R9 I10 k11 → Br (decide (n8 < (↑aN : Int))) (∀ (w12 : World) (R13 : List Own), Ctx W w12 (R9 ++ R13) I10 → (0 ≤ n8 ∧ n8 < (↑aN : Int)) ∧ ptrK
  none aP fun (k14 k15 : Nat) => ∃ (n16 : Int), ∃ (s17 : ByteArray), RowAt w12 k14 (k15 + n8.toNat * 2) [Value.int IntKind.i64 n16, Value.string s17] ∧ (0 ≤ n8 ∧ n8 < (↑bN : Int)) ∧ ptrK none
  bP fun (k18 k19 : Nat) => ∃ (n20 : Int), ∃ (s21 : ByteArray), RowAt w12 k18 (k19 + n8.toNat * 2) [Value.int IntKind.i64 n20, Value.string s21] ∧ okAgg Try.prog 55 = true ∧ Br (!(decide (n16
  = n20) && (decide (s17 = s21) && true))) (∀ (w22 : World) (R23 : List Own), Ctx W w22 (R9 ++ R23) I10 → J (Value.bool false) w22) (I64 (n8 + 1) ∧ ∃ (R24 : List Own), ∃ (Φ25 : PW), ∃ (k26 :
  Nat), Stable Φ25 ∧ (∀ (w27 : World) (R28 : List Own), Ctx W w27 (R9 ++ R28) I10 → Ctx W w27 (R24 ++ R28) Φ25) ∧ I2 (n8 + 1) R24 Φ25 k26 ∧ k26 < k11)) (∀ (w29 : World) (R30 : List Own), Ctx
  W w29 (R9 ++ R30) I10 → J (Value.bool true) w29))

theorem Berrataref08_SameRecs_run (aP : Option Addr) (aN aC : Nat) (bP : Option Addr) (bN bC : Nat) {W w : World} {R : List Own} {Φ : PW} [Stable Φ] {J : Value → World → Prop} (c : Ctx W w R Φ) (h : Berrataref08_SameRecs aP aN aC bP bN bC W R Φ J) : Calls Try.prog F.errataref08_SameRecs #[.slice aP aN aC, .slice bP bN bC] w fun e w' => ∃ v, e = .returned v ∧ J v w' :=
  vcFS_sound (H := { keep := some [0, 1, 4, 5, 10, 14, 25], loops := [(4, [(5, .one (.int .i64))], [])] }) (by rw [show vcFS Try.prog W { keep := some [0, 1, 4, 5, 10, 14, 25], loops := [(4, [(5, .one (.int .i64))], [])] } F.errataref08_SameRecs #[.slice aP aN aC, .slice bP bN bC] R Φ J = Berrataref08_SameRecs aP aN aC bP bN bC W R Φ J by kernel_rfl]; exact h) c

/-- erratalaw08.short -/
-- loop at region 2: 3 i; blocks 
def Berratalaw08_short (lP : Option Addr) (lN lC : Nat) (W : World) (R : List Own) (Φ : PW) (J : Value → World → Prop) : Prop :=
  exI fun (I0 : Int → List Own → PW → Nat → Prop) => (∃ (R1 : List Own), ∃ (Φ2 : PW), ∃ (k3 : Nat), Stable Φ2 ∧ (∀ (w4 : World) (R5 : List Own), Ctx W w4 (R ++ R5) Φ → Ctx W w4 (R1 ++ R5) Φ2)
  ∧ I0 0 R1 Φ2 k3) ∧ ∀ (n6 : Int) (R7 : List Own) (I8 : List Nat → World → Prop) (k9 : Nat), Stable I8 → I0 n6 R7 I8 k9 → Br (decide (n6 < (↑lN : Int))) ((0 ≤ n6 ∧ n6 < (↑lN : Int)) ∧ ptrK
  none lP fun (k10 k11 : Nat) => ∀ (w12 : World) (R13 : List Own), Ctx W w12 (R7 ++ R13) I8 → ∃ (s14 : ByteArray), w12.cell? (Addr.mk k10 (k11 + n6.toNat * 2 + 1) none) = some (Value.string
  s14) ∧ Br (decide (2100 < (↑s14.size : Int))) (∀ (w15 : World) (R16 : List Own), Ctx W w15 (R7 ++ R16) I8 → J (Value.bool false) w15) (I64 (n6 + 1) ∧ ∃ (R17 : List Own), ∃ (Φ18 : PW), ∃
  (k19 : Nat), Stable Φ18 ∧ (∀ (w20 : World) (R21 : List Own), Ctx W w20 (R7 ++ R21) I8 → Ctx W w20 (R17 ++ R21) Φ18) ∧ I0 (n6 + 1) R17 Φ18 k19 ∧ k19 < k9)) (∀ (w22 : World) (R23 : List Own),
  Ctx W w22 (R7 ++ R23) I8 → J (Value.bool true) w22)

theorem Berratalaw08_short_run (lP : Option Addr) (lN lC : Nat) {W w : World} {R : List Own} {Φ : PW} [Stable Φ] {J : Value → World → Prop} (c : Ctx W w R Φ) (h : Berratalaw08_short lP lN lC W R Φ J) : Calls Try.prog F.erratalaw08_short #[.slice lP lN lC] w fun e w' => ∃ v, e = .returned v ∧ J v w' :=
  vcFS_sound (H := { keep := some [0, 2, 3, 7, 16], loops := [(2, [(3, .one (.int .i64))], [])] }) (by rw [show vcFS Try.prog W { keep := some [0, 2, 3, 7, 16], loops := [(2, [(3, .one (.int .i64))], [])] } F.erratalaw08_short #[.slice lP lN lC] R Φ J = Berratalaw08_short lP lN lC W R Φ J by kernel_rfl]; exact h) c

/-- (*erratalaw08.cluster).arrive -/
-- cut 7: ; blocks 
-- known blocks: 7 m
def Berratalaw08_cluster_arrive (xB xO : Nat) (n : Int) (keep : Bool) (W : World) (R : List Own) (Φ : PW) (J : Value → World → Prop) : Prop :=
  ∀ (w0 : World) (R1 : List Own), Ctx W w0 (R ++ R1) Φ → ∃ (p2 : Option Addr), ∃ (k3 : Nat), ∃ (k4 : Nat), w0.cell? (Addr.mk xB (xO + 2) none) = some (Value.slice p2 k3 k4) ∧ Br (decide ((↑k3
  : Int) = 0)) (∀ (w5 : World) (R6 : List Own), Ctx W w5 (R ++ R6) Φ → J (Value.bool true) w5) (∀ (w7 : World) (R8 : List Own), Ctx W w7 (R ++ R8) Φ → ∃ (p9 : Option Addr), ∃ (k10 : Nat), ∃
  (k11 : Nat), w7.cell? (Addr.mk xB (xO + 2) none) = some (Value.slice p9 k10 k11) ∧ ∀ (w12 : World) (R13 : List Own), Ctx W w12 (R ++ R13) Φ → Calls Try.prog F.erratalaw08_pick #[Value.int
  IntKind.i64 n, Value.int IntKind.i64 (↑k10 : Int)] w12 fun (e14 : Ending) (w15 : World) => ∃ (n16 : Int), e14 = Ending.returned (Value.int IntKind.i64 n16) ∧ ∃ (R17 : List Own), ∃ (Φ18 :
  PW), Stable Φ18 ∧ Ctx W w15 (R17 ++ R13) Φ18 ∧ ∀ (w19 : World) (R20 : List Own), Ctx W w19 (R17 ++ R20) Φ18 → ∃ (p21 : Option Addr), ∃ (k22 : Nat), ∃ (k23 : Nat), w19.cell? (Addr.mk xB (xO
  + 2) none) = some (Value.slice p21 k22 k23) ∧ (0 ≤ n16 ∧ n16 < (↑k22 : Int)) ∧ ptrK none p21 fun (k24 k25 : Nat) => ∀ (w26 : World) (R27 : List Own), Ctx W w26 (R17 ++ R27) Φ18 → ∃ (n28 :
  Int), ∃ (n29 : Int), ∃ (n30 : Int), ∃ (n31 : Int), ∃ (n32 : Int), ∃ (n33 : Int), ∃ (n34 : Int), ∃ (c35 : Bool), ∃ (p36 : Option Addr), ∃ (k37 : Nat), ∃ (k38 : Nat), RowAt w26 k24 (k25 +
  n16.toNat * 9) [Value.int IntKind.i64 n28, Value.int IntKind.i64 n29, Value.int IntKind.i64 n30, Value.int IntKind.i64 n31, Value.int IntKind.i64 n32, Value.int IntKind.i64 n33, Value.int
  IntKind.i64 n34, Value.bool c35, Value.slice p36 k37 k38] ∧ ∀ (b : Nat), exI fun (I39 : List Own → PW → Prop) => Br (!keep) (∃ (R40 : List Own), ∃ (Φ41 : PW), Stable Φ41 ∧ (∀ (w42 : World)
  (R43 : List Own), Ctx W w42 (R17 ++ R43) Φ18 → Ctx W w42 (R40 ++ R43) Φ41) ∧ I64 (n16 + 1) ∧ ∃ (p44 : Option Addr), ∃ (k45 : Nat), ∃ (k46 : Nat), (∀ (w47 : World) (R48 : List Own), Ctx W
  w47 (R40 ++ R48) Φ41 → ∃ (p49 : Option Addr), ∃ (k50 : Nat), ∃ (k51 : Nat), w47.cell? (Addr.mk xB (xO + 2) none) = some (Value.slice p49 k50 k51) ∧ Value.slice p49 k50 k51 = Value.slice p44
  k45 k46) ∧ ∃ (p52 : Option Addr), ∃ (k53 : Nat), ∃ (k54 : Nat), (∀ (w55 : World) (R56 : List Own), Ctx W w55 (R40 ++ R56) Φ41 → ∃ (p57 : Option Addr), ∃ (k58 : Nat), ∃ (k59 : Nat),
  w55.cell? (Addr.mk xB (xO + 2) none) = some (Value.slice p57 k58 k59) ∧ Value.slice p57 k58 k59 = Value.slice p52 k53 k54) ∧ (0 ≤ n16 ∧ n16 ≤ (↑k46 : Int)) ∧ (0 ≤ n16 + 1 ∧ n16 + 1 ≤ (↑k53
  : Int) ∧ k53 ≤ k54) ∧ ∀ (k60 : Nat), (∀ (w61 : World) (R62 : List Own), Ctx W w61 (Own.blk k60 [] 37 :: R17 ++ R62) Φ18 → Ctx W w61 (R40 ++ R62) Φ41) ∧ ∀ (w63 : World) (R64 : List Own), Ctx
  W w63 (Own.blk k60 [] 37 :: R17 ++ R64) Φ18 → ∃ (p65 : Option Addr), ∃ (k66 : Nat), ∃ (k67 : Nat), ∃ (w68 : World), Sem.run Try.prog (builtin Builtin.append #[27, 27] 27 #[false, false]
  #[Value.slice (some (Addr.mk k60 0 none)) 0 0, Value.slice (subPtr p44 9 0 k46) n16.toNat k46]) w63 = Result.ok (Next.value (Value.slice p65 k66 k67)) w68 ∧ ∃ (R69 : List Own), ∃ (Φ70 :
  PW), Stable Φ70 ∧ Ctx W w68 (R69 ++ R64) Φ70 ∧ (∀ (w71 : World) (R72 : List Own), Ctx W w71 (R69 ++ R72) Φ70 → Ctx W w71 (R40 ++ R72) Φ41) ∧ ∀ (w73 : World) (R74 : List Own), Ctx W w73 (R69
  ++ R74) Φ70 → ∃ (p75 : Option Addr), ∃ (k76 : Nat), ∃ (k77 : Nat), ∃ (w78 : World), Sem.run Try.prog (builtin Builtin.append #[27, 27] 27 #[false, false] #[Value.slice p65 k66 k67,
  Value.slice (subPtr p52 9 (n16 + 1).toNat k54) (k53 - (n16 + 1).toNat) (k54 - (n16 + 1).toNat)]) w73 = Result.ok (Next.value (Value.slice p75 k76 k77)) w78 ∧ ∃ (R79 : List Own), ∃ (Φ80 :
  PW), Stable Φ80 ∧ Ctx W w78 (R79 ++ R74) Φ80 ∧ (∀ (w81 : World) (R82 : List Own), Ctx W w81 (R79 ++ R82) Φ80 → Ctx W w81 (R40 ++ R82) Φ41) ∧ ∀ (w83 : World) (R84 : List Own), Ctx W w83 (R79
  ++ R84) Φ80 → CanWrite w83 xB (xO + 2) 1 ∧ ∀ (w85 : World), w85 = w83.setCell (Addr.mk xB (xO + 2) none) (Value.slice p75 k76 k77) → ∃ (R86 : List Own), ∃ (Φ87 : PW), Stable Φ87 ∧ Ctx W w85
  (R86 ++ R84) Φ87 ∧ ∃ (R88 : List Own), ∃ (Φ89 : PW), Stable Φ89 ∧ (∀ (w90 : World) (R91 : List Own), Ctx W w90 (R86 ++ R91) Φ87 → Ctx W w90 (R88 ++ R91) Φ89) ∧ I39 R88 Φ89) (∃ (R92 : List
  Own), ∃ (Φ93 : PW), Stable Φ93 ∧ (∀ (w94 : World) (R95 : List Own), Ctx W w94 (R17 ++ R95) Φ18 → Ctx W w94 (R92 ++ R95) Φ93) ∧ I39 R92 Φ93) ∧ ∀ (R96 : List Own) (I97 : List Nat → World →
  Prop), Stable I97 → I39 R96 I97 → ∀ (w98 : World) (R99 : List Own), Ctx W w98 (R96 ++ R99) I97 → Calls Try.prog F.erratalaw08_pick #[Value.int IntKind.i64 n30, Value.int IntKind.i64 3] w98
  fun (e100 : Ending) (w101 : World) => ∃ (n102 : Int), e100 = Ending.returned (Value.int IntKind.i64 n102) ∧ ∃ (R103 : List Own), ∃ (Φ104 : PW), Stable Φ104 ∧ Ctx W w101 (R103 ++ R99) Φ104 ∧
  ∃ (R105 : List Own), ∃ (Φ106 : PW), Stable Φ106 ∧ (∀ (w107 : World) (R108 : List Own), Ctx W w107 (R103 ++ R108) Φ104 → Ctx W w107 (R105 ++ R108) Φ106) ∧ ∃ (p109 : Option Addr), ∃ (k110 :
  Nat), ∃ (k111 : Nat), (∀ (w112 : World) (R113 : List Own), Ctx W w112 (R105 ++ R113) Φ106 → ∃ (p114 : Option Addr), ∃ (k115 : Nat), ∃ (k116 : Nat), w112.cell? (Addr.mk xB xO none) = some
  (Value.slice p114 k115 k116) ∧ Value.slice p114 k115 k116 = Value.slice p109 k110 k111) ∧ (0 ≤ n102 ∧ n102 < (↑k110 : Int)) ∧ ptrK none p109 fun (k117 k118 : Nat) => ∃ (p119 : Option Addr),
  (∀ (w120 : World) (R121 : List Own), Ctx W w120 (R105 ++ R121) Φ106 → ∃ (p122 : Option Addr), w120.cell? (Addr.mk k117 (k118 + n102.toNat) none) = some (Value.pointer p122) ∧ Value.pointer
  p122 = Value.pointer p119) ∧ ∀ (w123 : World) (R124 : List Own), Ctx W w123 (R103 ++ R124) Φ104 → Calls Try.prog F.replica_Replica_Hear #[Value.pointer p119, Value.agg #[Value.int
  IntKind.i64 n28, Value.int IntKind.i64 n29, Value.int IntKind.i64 n30, Value.int IntKind.i64 n31, Value.int IntKind.i64 n32, Value.int IntKind.i64 n33, Value.int IntKind.i64 n34, Value.bool
  c35, Value.slice p36 k37 k38]] w123 fun (e125 : Ending) (w126 : World) => ∃ (c127 : Bool), ∃ (n128 : Int), ∃ (n129 : Int), ∃ (n130 : Int), ∃ (p131 : Option Addr), ∃ (k132 : Nat), ∃ (k133 :
  Nat), ∃ (p134 : Option Addr), ∃ (k135 : Nat), ∃ (k136 : Nat), e125 = Ending.returned (Value.agg #[Value.bool c127, Value.int IntKind.i64 n128, Value.int IntKind.i64 n129, Value.int
  IntKind.i64 n130, Value.slice p131 k132 k133, Value.slice p134 k135 k136]) ∧ ∃ (R137 : List Own), ∃ (Φ138 : PW), Stable Φ138 ∧ Ctx W w126 (R137 ++ R124) Φ138 ∧ (∀ (w139 : World) (R140 :
  List Own), Ctx W w139 (R137 ++ R140) Φ138 → Ctx W w139 (R105 ++ R140) Φ106) ∧ ∀ (w141 : World) (R142 : List Own), Ctx W w141 (R137 ++ R142) Φ138 → Calls Try.prog F.erratalaw08_cluster_done
  #[Value.pointer (some (Addr.mk xB xO none)), Value.int IntKind.i64 n102, Value.agg #[Value.bool c127, Value.int IntKind.i64 n128, Value.int IntKind.i64 n129, Value.int IntKind.i64 n130,
  Value.slice p131 k132 k133, Value.slice p134 k135 k136]] w141 fun (e143 : Ending) (w144 : World) => ∃ (c145 : Bool), e143 = Ending.returned (Value.bool c145) ∧ ∃ (R146 : List Own), ∃ (Φ147
  : PW), Stable Φ147 ∧ Ctx W w144 (R146 ++ R142) Φ147 ∧ ∀ (w148 : World) (R149 : List Own), Ctx W w148 (R146 ++ R149) Φ147 → J (Value.bool c145) w148)

/-- (*erratalaw08.cluster).start -/
def Berratalaw08_cluster_start (xB xO : Nat) (i : Int) (W : World) (R : List Own) (Φ : PW) (J : Value → World → Prop) : Prop :=
  ∀ (w0 : World) (R1 : List Own), Ctx W w0 (R ++ R1) Φ → ∃ (p2 : Option Addr), ∃ (k3 : Nat), ∃ (k4 : Nat), w0.cell? (Addr.mk xB (xO + 1) none) = some (Value.slice p2 k3 k4) ∧ (0 ≤ i ∧ i <
  (↑k3 : Int)) ∧ ptrK none p2 fun (k5 k6 : Nat) => ∀ (w7 : World) (R8 : List Own), Ctx W w7 (R ++ R8) Φ → CanWrite w7 k5 (k6 + i.toNat * 4 + 3) 1 ∧ ∀ (w9 : World), w9 = w7.setCell (Addr.mk k5
  (k6 + i.toNat * 4 + 3) none) (Value.int IntKind.i64 0) → ∃ (R10 : List Own), ∃ (Φ11 : PW), Stable Φ11 ∧ Ctx W w9 (R10 ++ R8) Φ11 ∧ ∃ (R12 : List Own), ∃ (Φ13 : PW), Stable Φ13 ∧ (∀ (w14 :
  World) (R15 : List Own), Ctx W w14 (R10 ++ R15) Φ11 → Ctx W w14 (R12 ++ R15) Φ13) ∧ ∃ (p16 : Option Addr), ∃ (k17 : Nat), ∃ (k18 : Nat), (∀ (w19 : World) (R20 : List Own), Ctx W w19 (R12 ++
  R20) Φ13 → ∃ (p21 : Option Addr), ∃ (k22 : Nat), ∃ (k23 : Nat), w19.cell? (Addr.mk xB xO none) = some (Value.slice p21 k22 k23) ∧ Value.slice p21 k22 k23 = Value.slice p16 k17 k18) ∧ ∃ (p24
  : Option Addr), ∃ (k25 : Nat), ∃ (k26 : Nat), (∀ (w27 : World) (R28 : List Own), Ctx W w27 (R12 ++ R28) Φ13 → ∃ (p29 : Option Addr), ∃ (k30 : Nat), ∃ (k31 : Nat), w27.cell? (Addr.mk xB (xO
  + 1) none) = some (Value.slice p29 k30 k31) ∧ Value.slice p29 k30 k31 = Value.slice p24 k25 k26) ∧ ∃ (p32 : Option Addr), ∃ (k33 : Nat), ∃ (k34 : Nat), (∀ (w35 : World) (R36 : List Own),
  Ctx W w35 (R12 ++ R36) Φ13 → ∃ (p37 : Option Addr), ∃ (k38 : Nat), ∃ (k39 : Nat), w35.cell? (Addr.mk xB (xO + 1) none) = some (Value.slice p37 k38 k39) ∧ Value.slice p37 k38 k39 =
  Value.slice p32 k33 k34) ∧ (0 ≤ i ∧ i < (↑k25 : Int)) ∧ ptrK none p24 fun (k40 k41 : Nat) => (0 ≤ i ∧ i < (↑k33 : Int)) ∧ ptrK none p32 fun (k42 k43 : Nat) => ∃ (n44 : Int), ∃ (n45 : Int),
  (∀ (w46 : World) (R47 : List Own), Ctx W w46 (R12 ++ R47) Φ13 → ∃ (n48 : Int), ∃ (n49 : Int), RowAt w46 k40 (k41 + i.toNat * 4) [Value.int IntKind.i64 n48, Value.int IntKind.i64 n49] ∧
  Value.agg #[Value.int IntKind.i64 n48, Value.int IntKind.i64 n49] = Value.agg #[Value.int IntKind.i64 n44, Value.int IntKind.i64 n45]) ∧ ∃ (p50 : Option Addr), ∃ (k51 : Nat), ∃ (k52 : Nat),
  (∀ (w53 : World) (R54 : List Own), Ctx W w53 (R12 ++ R54) Φ13 → ∃ (p55 : Option Addr), ∃ (k56 : Nat), ∃ (k57 : Nat), w53.cell? (Addr.mk k42 (k43 + i.toNat * 4 + 2) none) = some (Value.slice
  p55 k56 k57) ∧ Value.slice p55 k56 k57 = Value.slice p50 k51 k52) ∧ ∀ (w58 : World) (R59 : List Own), Ctx W w58 (R10 ++ R59) Φ11 → Calls Try.prog F.replica_New #[Value.int IntKind.i64 i,
  Value.agg #[Value.int IntKind.i64 n44, Value.int IntKind.i64 n45], Value.slice p50 k51 k52] w58 fun (e60 : Ending) (w61 : World) => ∃ (p62 : Option Addr), e60 = Ending.returned
  (Value.pointer p62) ∧ ∃ (R63 : List Own), ∃ (Φ64 : PW), Stable Φ64 ∧ Ctx W w61 (R63 ++ R59) Φ64 ∧ (∀ (w65 : World) (R66 : List Own), Ctx W w65 (R63 ++ R66) Φ64 → Ctx W w65 (R12 ++ R66) Φ13)
  ∧ (0 ≤ i ∧ i < (↑k17 : Int)) ∧ ptrK none p16 fun (k67 k68 : Nat) => ∀ (w69 : World) (R70 : List Own), Ctx W w69 (R63 ++ R70) Φ64 → CanWrite w69 k67 (k68 + i.toNat) 1 ∧ ∀ (w71 : World), w71
  = w69.setCell (Addr.mk k67 (k68 + i.toNat) none) (Value.pointer p62) → ∃ (R72 : List Own), ∃ (Φ73 : PW), Stable Φ73 ∧ Ctx W w71 (R72 ++ R70) Φ73 ∧ ∀ (w74 : World) (R75 : List Own), Ctx W
  w74 (R72 ++ R75) Φ73 → ∃ (p76 : Option Addr), ∃ (k77 : Nat), ∃ (k78 : Nat), w74.cell? (Addr.mk xB xO none) = some (Value.slice p76 k77 k78) ∧ (0 ≤ i ∧ i < (↑k77 : Int)) ∧ ptrK none p76 fun
  (k79 k80 : Nat) => ∀ (w81 : World) (R82 : List Own), Ctx W w81 (R72 ++ R82) Φ73 → ∃ (p83 : Option Addr), w81.cell? (Addr.mk k79 (k80 + i.toNat) none) = some (Value.pointer p83) ∧ ∀ (w84 :
  World) (R85 : List Own), Ctx W w84 (R72 ++ R85) Φ73 → J (Value.bool !p83.isNone) w84

end Go.Proofs.Ytifgijoeckoojaa
end

/-
  Three replicas, what they have stored, and messages: in plain Lean, and where they lie; pick, few, SameRecs.
-/
section
set_option linter.unusedVariables false
set_option linter.unusedSimpArgs false
namespace Go.Proofs.Ytifgijoeckoojaa
open Go.Vc

/-! ### in plain Lean -/
structure Node where
  rep : Rep
  sterm : Int
  svote : Int
  slog : List RecD
  stop : Int

structure Cl where
  nd : Nat → Node
  sent : List MsgR

def startN (i : Nat) (n : Node) : Node := { n with stop := 0, rep := newRep i n.sterm n.svote n.slog }
def saveN (n : Node) (o : OutR) : Node := if o.save = true then { n with sterm := o.term, svote := o.vote } else n
def keepN (n : Node) (o : OutR) : Node := if 0 < o.src then { n with slog := n.slog.take (min (o.src - 1) (n.slog.length : Int)).toNat ++ o.recs } else n
def startC (C : Cl) (i : Nat) : Cl := { C with nd := put C.nd i (startN i (C.nd i)) }
def repC (C : Cl) (i : Nat) (r : Rep) : Cl := { C with nd := put C.nd i { C.nd i with rep := r } }
/-- what a call of a replica says is done -/
def doneC (C : Cl) (i : Nat) (o : OutR) : Cl :=
  if (C.nd i).stop = 1 then startC C i
  else
    let C1 : Cl := { C with nd := put C.nd i (keepN (saveN (C.nd i) o) o) }
    if (C.nd i).stop = 2 then startC C1 i
    else { C1 with sent := C.sent ++ o.send.take (300 - C.sent.length) }

def pickZ (n m : Int) : Int := if m < 1 then 0 else n.emod m

/-! ### few -/
structure OpR where
  op : Int
  who : Int
  n : Int
  data : ByteArray
instance : Gv OpR := Gv.via (β := Int × Int × Int × ByteArray) (fun x => (x.op, x.who, x.n, x.data)) (fun y => ⟨y.1, y.2.1, y.2.2.1, y.2.2.2⟩) (fun _ => rfl)

theorem sl_op {M : List Nat} {w : World} {b o : Nat} {l : List OpR} (h : Sl M w (some ⟨b, o, none⟩) l) {i : Nat} (hi : i < l.length) : RowAt w b (o + i * 4) [.int .i64 l[i].op, .int .i64 l[i].who, .int .i64 l[i].n, .string l[i].data] := by
  obtain ⟨b', o', cs, e, _, h3, _, _, rfl, ⟨rfl, _⟩, _, _, rfl, ⟨rfl, _⟩, _, _, rfl, ⟨rfl, _⟩, rfl, _⟩ := h i hi
  cases e
  exact h3

theorem few_in {Φ : PW} [Stable Φ] (p : Option Addr) (cap : Nat) (l : List OpR) (n : Int) (hΦ : ∀ M w, Φ M w → Sl M w p l) (hlen : l.length ≤ 9223372036854775807) :
    ∃ bf : Bool, GivesIn Φ Try.prog F.erratalaw08_few #[.slice p l.length cap, .int .i64 n] (.bool bf) ∧ (bf = true → (∀ x ∈ l, x.data.size ≤ 40) ∧ (l.length : Int) ≤ n) := by
  refine ⟨(l.all fun x => decide (x.data.size ≤ 40)) && decide ((l.length : Int) ≤ n), ?_, fun h => ?_⟩
  · refine .there (fun M w h => (hΦ M w h).there) fun hth => ?_
    refine gives_in (Berratalaw08_few_run p l.length cap n) fun W R => ?_
    refine exI_mk (fun iI R' Φ' k => ∃ i : Nat, iI = i ∧ i ≤ l.length ∧ R' = R ∧ Φ' = Φ ∧ k = l.length - i ∧ (l.all fun x => decide (x.data.size ≤ 40)) = ((l.drop i).all fun x => decide (x.data.size ≤ 40))) ⟨⟨R, Φ, _, inferInstance, fun w F c => c, 0, rfl, Nat.zero_le _, rfl, rfl, rfl, rfl⟩, ?_⟩
    rintro iI R1 Φ1 k _ ⟨i, rfl, hi, rfl, rfl, rfl, hs⟩
    refine Br.intro (fun hlt => ?_) (fun hge => fun w F cx => ⟨?_, cx.left⟩)
    · have hlt : i < l.length := by simpa using hlt
      obtain ⟨b, o, rfl⟩ := hth (by omega)
      rw [List.drop_eq_getElem_cons hlt, List.all_cons] at hs
      refine ⟨by omega, ptrK_intro b o rfl fun w F cx => ⟨l[i].data, by rw [Int.toNat_natCast]; exact sl_op (hΦ _ _ cx.phi) hlt 3 (by simp), Br.intro (fun h => fun w F cx => ⟨?_, cx.left⟩) (fun h => ⟨by unfold I64; omega, R1, Φ1, l.length - (i + 1), inferInstance, fun w F c => c, ⟨i + 1, rfl, hlt, rfl, rfl, rfl, ?_⟩, by omega⟩)⟩⟩
      · rw [hs, decide_eq_false (by have := of_decide_eq_true h; omega), Bool.false_and, Bool.false_and]
      · rw [hs, decide_eq_true (by have := of_decide_eq_false h; omega), Bool.true_and]
    · have hge : i = l.length := Nat.le_antisymm hi (by simpa using hge)
      rw [hs, hge, List.drop_length]
      rfl
  · simp only [Bool.and_eq_true, List.all_eq_true, decide_eq_true_eq] at h
    exact h

/-! ### SameRecs -/
theorem okAgg55 : okAgg Try.prog 55 = true := by kernel_rfl

/-! ### where it lies -/
structure Lay where
  x : Nat
  rp : Option Addr
  rc : Nat
  sp : Option Addr
  sc : Nat
  tp : Option Addr
  tc : Nat
  mc : List Value
  b : Nat → Nat
  p : Nat → Option Addr
  c : Nat → Nat
  lp : Nat → Option Addr
  lc : Nat → Nat

abbrev ptrV (b : Nat) : Value := .pointer (some ⟨b, 0, none⟩)
abbrev nodeS (n : Node) (p : Option Addr) (c : Nat) : List Value := [.int .i64 n.sterm, .int .i64 n.svote, .slice p n.slog.length c, .int .i64 n.stop]
abbrev sCells (L : Lay) (C : Cl) : List Value := nodeS (C.nd 0) (L.lp 0) (L.lc 0) ++ nodeS (C.nd 1) (L.lp 1) (L.lc 1) ++ nodeS (C.nd 2) (L.lp 2) (L.lc 2)
abbrev rCells (L : Lay) : List Value := [ptrV (L.b 0), ptrV (L.b 1), ptrV (L.b 2)]
abbrev xCells (L : Lay) (C : Cl) : List Value := [.slice L.rp 3 L.rc, .slice L.sp 3 L.sc, .slice L.tp C.sent.length L.tc]
abbrev heads (L : Lay) (C : Cl) : List Own := [.blk L.x (xCells L C) 34, .buf L.rp 3 L.rc (rCells L) 46 1, .buf L.sp 3 L.sc (sCells L C) 42 4, .buf L.tp C.sent.length L.tc L.mc 37 9]
abbrev repI (L : Lay) (C : Cl) (i : Nat) : List Own := repO (L.b i) (C.nd i).rep (L.p i) (L.c i)
abbrev repsO (L : Lay) (C : Cl) : List Own := repI L C 0 ++ (repI L C 1 ++ repI L C 2)
def restO (L : Lay) (C : Cl) (i : Nat) : List Own := if i = 0 then repI L C 1 ++ repI L C 2 else if i = 1 then repI L C 0 ++ repI L C 2 else repI L C 0 ++ repI L C 1
abbrev clO (L : Lay) (C : Cl) : List Own := heads L C ++ repsO L C

def LogS (M : List Nat) (w : World) (p : Option Addr) (c : Nat) (l : List RecD) : Prop := l.length ≤ c ∧ Sl M w p l
instance logs_stable (p : Option Addr) (c : Nat) (l : List RecD) : Stable (fun M w => LogS M w p c l) := instStableAnd (fun _ _ => l.length ≤ c) (fun M w => Sl M w p l)

def ClS (L : Lay) (C : Cl) : PW := fun M w => Elems M w L.mc C.sent ∧ (LogS M w (L.lp 0) (L.lc 0) (C.nd 0).slog ∧ LogS M w (L.lp 1) (L.lc 1) (C.nd 1).slog ∧ LogS M w (L.lp 2) (L.lc 2) (C.nd 2).slog)
instance cls_stable (L : Lay) (C : Cl) : Stable (ClS L C) :=
  have h1 : Stable (fun M w => Elems M w L.mc C.sent) := instStableElems L.mc C.sent
  have h2 : Stable (fun M w => LogS M w (L.lp 1) (L.lc 1) (C.nd 1).slog ∧ LogS M w (L.lp 2) (L.lc 2) (C.nd 2).slog) := instStableAnd (fun M w => LogS M w (L.lp 1) (L.lc 1) (C.nd 1).slog) (fun M w => LogS M w (L.lp 2) (L.lc 2) (C.nd 2).slog)
  have h3 : Stable (fun M w => LogS M w (L.lp 0) (L.lc 0) (C.nd 0).slog ∧ LogS M w (L.lp 1) (L.lc 1) (C.nd 1).slog ∧ LogS M w (L.lp 2) (L.lc 2) (C.nd 2).slog) := instStableAnd (fun M w => LogS M w (L.lp 0) (L.lc 0) (C.nd 0).slog) (fun M w => LogS M w (L.lp 1) (L.lc 1) (C.nd 1).slog ∧ LogS M w (L.lp 2) (L.lc 2) (C.nd 2).slog)
  instStableAnd (fun M w => Elems M w L.mc C.sent) (fun M w => LogS M w (L.lp 0) (L.lc 0) (C.nd 0).slog ∧ LogS M w (L.lp 1) (L.lc 1) (C.nd 1).slog ∧ LogS M w (L.lp 2) (L.lc 2) (C.nd 2).slog)

theorem ClS.logs {L : Lay} {C : Cl} {M : List Nat} {w : World} (h : ClS L C M w) {i : Nat} (hi : i < 3) : LogS M w (L.lp i) (L.lc i) (C.nd i).slog := by
  match i, hi with
  | 0, _ => exact h.2.1
  | 1, _ => exact h.2.2.1
  | 2, _ => exact h.2.2.2
theorem ClS.log {L : Lay} {C : Cl} {M : List Nat} {w : World} (h : ClS L C M w) {i : Nat} (hi : i < 3) : Sl M w (L.lp i) (C.nd i).slog := (h.logs hi).2

/-- the places of replica i are others -/
def Lay.at (L : Lay) (i b : Nat) (p : Option Addr) (c : Nat) : Lay := { L with b := put L.b i b, p := put L.p i p, c := put L.c i c }

end Go.Proofs.Ytifgijoeckoojaa
end

