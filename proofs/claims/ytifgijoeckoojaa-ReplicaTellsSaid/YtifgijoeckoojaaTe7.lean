/-
  Replica: Hear.
-/
import Derived.Test.YtifgijoeckoojaaTe6
import Derived.Test.YtifgijoeckoojaaTe5

section
set_option linter.unusedVariables false
set_option linter.unusedSimpArgs false
namespace Go.Proofs.Ytifgijoeckoojaa
open Go.Vc

def finO (r : Rep) (x : Rep × OutR) : Rep × OutR := if (decide (x.1.term = r.term) && decide (x.1.vote = r.vote)) = true then x else (x.1, { x.2 with save := true, term := x.1.term, vote := x.1.vote })
def upR (r : Rep) (m : MsgR) : Rep := { r with term := m.term, vote := -1, role := 0 }
def hearX (r1 : Rep) (m : MsgR) : Rep × OutR := if m.kind = 0 then voteP r1 m else if m.kind = 1 then votedP r1 m else if m.kind = 2 then appendP r1 m else appendedP r1 m

theorem hear_no {r : Rep} {m : MsgR} (h : rightP r.id m = false) : hearP r m = (r, out0) := by unfold hearP; rw [if_pos h]
theorem hear_yes {r : Rep} {m : MsgR} (h : rightP r.id m = true) : hearP r m = finO r (hearX (if r.term < m.term then upR r m else r) m) := by unfold hearP; rw [if_neg (by rw [h]; simp)]; rfl

theorem up_ok {r : Rep} (h : r.Ok) (m : MsgR) (hm : m.Right r.id) (ht : r.term < m.term) : (upR r m).Ok := by
  have h1 := h.term0
  have h2 := hm.term.2
  refine ⟨h.id, by show 0 ≤ m.term; omega, h2, by show (-1 : Int) ≤ -1; omega, by show (-1 : Int) ≤ 2; omega, ⟨h.log.lo, fun x hx => ?_, h.log.data, h.log.asc⟩, h.len, .inl rfl, h.commit, fun hr => ?_, h.bound⟩
  · have := h.log.hi x hx
    show x.term ≤ m.term
    omega
  · cases (show (0 : Int) = 2 from hr)

theorem okAgg40 : okAgg Try.prog 40 = true := by kernel_rfl

theorem hear_post {W : World} {S G : List Own} {Φ : PW} [Stable Φ] {b : Nat} {r : Rep} {x : Rep × OutR} {J : Value → World → Prop} (hK : OutK W S Φ b (finO r x).1 (finO r x).2 J) :
    OutK W (S ++ G) Φ b x.1 x.2 (fun v w => ∃ (c : Bool) (n1 n2 n3 : Int) (p1 : Option Addr) (k1 k2 : Nat) (p2 : Option Addr) (k3 k4 : Nat), Ending.returned v = .returned (.agg #[.bool c, .int .i64 n1, .int .i64 n2, .int .i64 n3, .slice p1 k1 k2, .slice p2 k3 k4]) ∧
      ∃ (R : List Own) (Φ' : PW), Stable Φ' ∧ Ctx W w (R ++ G) Φ' ∧ ∀ (w : World) (F : List Own), Ctx W w (R ++ F) Φ' → ∃ (a1 a2 : Int), RowAt w b (0 + 1) [.int .i64 a1, .int .i64 a2] ∧ okAgg Try.prog 40 = true ∧
        Br (!(decide (a1 = r.term) && (decide (a2 = r.vote) && true)))
          (∃ (R2 : List Own) (Φ2 : PW), Stable Φ2 ∧ (∀ (w : World) (F : List Own), Ctx W w (R ++ F) Φ' → Ctx W w (R2 ++ F) Φ2) ∧ ∃ (b1 b2 : Int), (∀ (w : World) (F : List Own), Ctx W w (R2 ++ F) Φ2 → ∃ (d1 d2 : Int), RowAt w b (0 + 1) [.int .i64 d1, .int .i64 d2] ∧ Value.agg #[.int .i64 d1, .int .i64 d2] = Value.agg #[.int .i64 b1, .int .i64 b2]) ∧
            (∀ (w : World) (F : List Own), Ctx W w (R ++ F) Φ' → Ctx W w (R2 ++ F) Φ2) ∧ (∀ (w : World) (F : List Own), Ctx W w (R ++ F) Φ' → Ctx W w (R2 ++ F) Φ2) ∧ ∀ (w : World) (F : List Own), Ctx W w (R ++ F) Φ' → J (.agg #[.bool true, .int .i64 b1, .int .i64 b2, .int .i64 n3, .slice p1 k1 k2, .slice p2 k3 k4]) w)
          (∀ (w : World) (F : List Own), Ctx W w (R ++ F) Φ' → J (.agg #[.bool c, .int .i64 n1, .int .i64 n2, .int .i64 n3, .slice p1 k1 k2, .slice p2 k3 k4]) w)) := by
  obtain ⟨r', o⟩ := x
  intro p' c' q1 c1 q2 c2 w h1 h2 h3 h4 cx
  have hrow : ∀ {w : World} {F : List Own}, Ctx W w (repO b r' p' c' ++ S ++ F) (OPhi Φ q1 o.recs q2 o.send) → RowAt w b (0 + 1) [.int .i64 r'.term, .int .i64 r'.vote] := fun cx => cx.row 0 rfl (rows_of (vs := [.int .i64 r'.term, .int .i64 r'.vote]) rfl)
  refine ⟨_, _, _, _, q1, _, c1, q2, _, c2, rfl, repO b r' p' c' ++ S, OPhi Φ q1 o.recs q2 o.send, inferInstance, gr cx, fun w F cx => ⟨r'.term, r'.vote, hrow cx, okAgg40, Br.intro (fun hd => ?_) (fun hd => ?_)⟩⟩
  · have hf : finO r (r', o) = (r', { o with save := true, term := r'.term, vote := r'.vote }) := by
      unfold finO
      rw [if_neg]
      intro h
      simp only [Bool.and_true, Bool.not_eq_true'] at hd
      rw [hd] at h; cases h
    rw [hf] at hK
    exact ⟨repO b r' p' c' ++ S, OPhi Φ q1 o.recs q2 o.send, inferInstance, fun w F cx => cx, r'.term, r'.vote, fun w F cx => ⟨_, _, hrow cx, rfl⟩, fun w F cx => cx, fun w F cx => cx, fun w F cx => hK p' c' q1 c1 q2 c2 w h1 h2 h3 h4 cx.left⟩
  · have hf : finO r (r', o) = (r', o) := by
      unfold finO
      rw [if_pos]
      simpa using hd
    rw [hf] at hK
    exact fun w F cx => hK p' c' q1 c1 q2 c2 w h1 h2 h3 h4 cx.left

set_option maxHeartbeats 2000000 in
theorem Hear_use {W w : World} {S : List Own} {Φ : PW} [Stable Φ] {b : Nat} {r : Rep} {p : Option Addr} {c : Nat} (cx : Ctx W w (repO b r p c ++ S) Φ) (hr : r.Ok) (m : MsgR) (hmo : m.Ok) (q : Option Addr) (qc : Nat) (hsl : ∀ M w, Φ M w → Sl M w q m.recs) (hqc : m.recs.length ≤ qc) (hqm : qc ≤ maxLen) {K : Ending → World → Prop}
    (hK : OutK W S Φ b (hearP r m).1 (hearP r m).2 fun v w => K (.returned v) w) : Calls Try.prog F.replica_Replica_Hear #[.pointer (some ⟨b, 0, none⟩), m.v q qc] w K := by
  refine (Breplica_Replica_Hear_run b 0 m.kind m.src m.to m.term m.index m.prev m.commit m.yes q m.recs.length qc (J := fun u w' => K (.returned u) w') cx ?_).mono fun e w' ⟨v, he, hj⟩ => by rw [he]; exact hj
  refine fun _ _ w G cx => right_use (gl cx) m q qc hsl (Nat.le_trans hqc (Nat.le_trans hqm (by decide))) hmo.index fun w cx => ⟨_, rfl, repO b r p c ++ S, Φ, inferInstance, gr cx, Br.intro (fun h => fun w G cx => ?_) (fun h => fun w G cx => ⟨r.term, r.vote, cx.row 0 rfl (rows_of (vs := [.int .i64 r.term, .int .i64 r.vote]) rfl), fun _ w G cx => ⟨r.term, cx.get 0 rfl rfl, Br.intro (fun ht => fun w G cx => ⟨cx.can 0 rfl (by simp), fun w' hw' => ?_⟩) (fun ht => ?_)⟩⟩)⟩
  · rw [hear_no (by simpa using h)] at hK
    exact hK.zero cx.left
  all_goals
    have hy : rightP r.id m = true := by simpa using h
    have hmr := right_iff.1 hy
    obtain ⟨hs1, hs2, hs3⟩ := hmr.src
    obtain ⟨hk1, hk2⟩ := hmr.kind
    obtain ⟨hi1, hi2⟩ := hmr.index
    rw [hear_yes hy] at hK
  · have ht := of_decide_eq_true ht
    rw [if_pos ht] at hK
    have hu := up_ok hr m hmr ht
    have cx1 := gr (puts_rep (gl cx) hw' { r with term := m.term, vote := -1 } rfl rfl)
    refine ⟨_, Φ, inferInstance, cx1, fun w G cx => ⟨cx.can 0 rfl (by simp), fun w' hw' => ?_⟩⟩
    have cx1 : Ctx W w' (repO b (upR r m) p c ++ S ++ G) Φ := gr (put_rep (gl cx) hw' (upR r m) rfl rfl)
    refine ⟨_, Φ, inferInstance, cx1, fun _ => Br.intro (fun k0 => fun w G cx => ?_) (fun k0 => Br.intro (fun k1 => fun w G cx => ?_) (fun k1 => Br.intro (fun k2 => fun w G cx => ?_) (fun k2 => Br.intro (fun k3 => fun w G cx => ?_) (fun k3 => ?_))))⟩
    · rw [show hearX (upR r m) m = voteP (upR r m) m by unfold hearX; rw [if_pos (of_decide_eq_true k0)]] at hK
      exact vote_use (gl cx) hu m q qc hs2 hs3 (hear_post hK)
    · rw [show hearX (upR r m) m = votedP (upR r m) m by unfold hearX; rw [if_neg (of_decide_eq_false k0), if_pos (of_decide_eq_true k1)]] at hK
      exact voted_use (gl cx) hu m q qc hs2 hs3 (hear_post hK)
    · rw [show hearX (upR r m) m = appendP (upR r m) m by unfold hearX; rw [if_neg (of_decide_eq_false k0), if_neg (of_decide_eq_false k1), if_pos (of_decide_eq_true k2)]] at hK
      exact append_use (gl cx) hu m hmr q qc hsl hqc (hear_post hK)
    · rw [show hearX (upR r m) m = appendedP (upR r m) m by unfold hearX; rw [if_neg (of_decide_eq_false k0), if_neg (of_decide_eq_false k1), if_neg (of_decide_eq_false k2)]] at hK
      exact appended_use (gl cx) hu m q qc hs2 hs3 hi1 hi2 (hear_post hK)
    · exfalso
      have := of_decide_eq_false k0; have := of_decide_eq_false k1; have := of_decide_eq_false k2; have := of_decide_eq_false k3
      omega
  · have ht := of_decide_eq_false ht
    rw [if_neg ht] at hK
    refine fun _ => Br.intro (fun k0 => fun w G cx => ?_) (fun k0 => Br.intro (fun k1 => fun w G cx => ?_) (fun k1 => Br.intro (fun k2 => fun w G cx => ?_) (fun k2 => Br.intro (fun k3 => fun w G cx => ?_) (fun k3 => ?_))))
    · rw [show hearX r m = voteP r m by unfold hearX; rw [if_pos (of_decide_eq_true k0)]] at hK
      exact vote_use (gl cx) hr m q qc hs2 hs3 (hear_post hK)
    · rw [show hearX r m = votedP r m by unfold hearX; rw [if_neg (of_decide_eq_false k0), if_pos (of_decide_eq_true k1)]] at hK
      exact voted_use (gl cx) hr m q qc hs2 hs3 (hear_post hK)
    · rw [show hearX r m = appendP r m by unfold hearX; rw [if_neg (of_decide_eq_false k0), if_neg (of_decide_eq_false k1), if_pos (of_decide_eq_true k2)]] at hK
      exact append_use (gl cx) hr m hmr q qc hsl hqc (hear_post hK)
    · rw [show hearX r m = appendedP r m by unfold hearX; rw [if_neg (of_decide_eq_false k0), if_neg (of_decide_eq_false k1), if_neg (of_decide_eq_false k2)]] at hK
      exact appended_use (gl cx) hr m q qc hs2 hs3 hi1 hi2 (hear_post hK)
    · exfalso
      have := of_decide_eq_false k0; have := of_decide_eq_false k1; have := of_decide_eq_false k2; have := of_decide_eq_false k3
      omega

end Go.Proofs.Ytifgijoeckoojaa
end

/-
  The reference's replica: its cells; the walks of term, message, entries, all.
-/
section
set_option linter.unusedVariables false
set_option linter.unusedSimpArgs false
namespace Go.Proofs.Ytifgijoeckoojaa
open Go.Vc

/-- where the reference's replica keeps what -/
structure Loc where
  b : Nat
  v : Nat
  n : Nat
  m : Nat

abbrev Rep.qcells (r : Rep) (L : Loc) (p : Option Addr) (c : Nat) : List Value := [.int .i64 r.id, .int .i64 r.term, .int .i64 r.vote, .slice p r.log.length c, .int .i64 r.role, .int .i64 r.commit, .slice (some ⟨L.v, 0, none⟩) 3 3, .slice (some ⟨L.n, 0, none⟩) 3 3, .slice (some ⟨L.m, 0, none⟩) 3 3]
abbrev Rep.vc (r : Rep) : List Value := [.bool (r.votes 0), .bool (r.votes 1), .bool (r.votes 2)]
abbrev Rep.nc (r : Rep) : List Value := [.int .i64 (r.next 0), .int .i64 (r.next 1), .int .i64 (r.next 2)]
abbrev Rep.mc (r : Rep) : List Value := [.int .i64 (r.mat 0), .int .i64 (r.mat 1), .int .i64 (r.mat 2)]

abbrev refO (L : Loc) (r : Rep) (p : Option Addr) (c : Nat) : List Own := [.blk L.b (r.qcells L p c) 67, .buf p r.log.length c (recCells r.log) 55 2, .blk L.v r.vc 4, .blk L.n r.nc 3, .blk L.m r.mc 3]

theorem vc_at {r : Rep} {i : Nat} (h : i < 3) : r.vc[i]? = some (.bool (r.votes i)) := by
  match i, h with
  | 0, _ => rfl
  | 1, _ => rfl
  | 2, _ => rfl
theorem nc_at {r : Rep} {i : Nat} (h : i < 3) : r.nc[i]? = some (.int .i64 (r.next i)) := by
  match i, h with
  | 0, _ => rfl
  | 1, _ => rfl
  | 2, _ => rfl
theorem mc_at {r : Rep} {i : Nat} (h : i < 3) : r.mc[i]? = some (.int .i64 (r.mat i)) := by
  match i, h with
  | 0, _ => rfl
  | 1, _ => rfl
  | 2, _ => rfl

/-- the reference's replica lies here -/
structure HereQ (w : World) (b : Nat) (log : List RecD) (p : Option Addr) (c : Nat) : Prop where
  row : w.cell? ⟨b, 3, none⟩ = some (.slice p log.length c)
  log : ∀ j v, (recCells log)[j]? = some v → ∃ g, p = some ⟨g, 0, none⟩ ∧ w.cell? ⟨g, j, none⟩ = some v

theorem hereQ_of {W w : World} {S : List Own} {Φ : PW} {L : Loc} {r : Rep} {p : Option Addr} {c : Nat} (h : Ctx W w (refO L r p c ++ S) Φ) : HereQ w L.b r.log p c :=
  ⟨h.get 0 rfl rfl, fun j v hj => by
    obtain ⟨g, hg, _, h2⟩ := h.bufCell 1 rfl (by have := (List.getElem?_eq_some_iff.1 hj).1; omega)
    exact ⟨g, hg, (h2 _ _ hj).1⟩⟩

theorem HereQ.drew {w : World} {b : Nat} {r : List RecD} {p : Option Addr} {c : Nat} (h : HereQ w b r p c) (n : Nat) : HereQ (w.drewN n) b r p c :=
  ⟨((Chg.refl [] w).drewN n).cell h.row (by simp), fun j v hj => by
    obtain ⟨g, hg, h2⟩ := h.log j v hj
    exact ⟨g, hg, ((Chg.refl [] w).drewN n).cell h2 (by simp)⟩⟩

theorem termAt_big {l : List RecD} {k : Nat} (h : l.length < k) : termAt l k = 0 := by
  obtain ⟨j, rfl⟩ : ∃ j, k = j + 1 := ⟨k - 1, by omega⟩
  simp only [termAt, List.getElem?_eq_none (by omega : l.length ≤ j)]

theorem qterm_q {w : World} {b : Nat} {l : List RecD} {p : Option Addr} {c : Nat} (h : HereQ w b l p c) {n : Int} {k : Nat} (hn : n = k) (h4 : k ≤ 100000) :
    Calls Try.prog F.errataref08_Replica_term #[.pointer (some ⟨b, 0, none⟩), .int .i64 n] w fun e w' => e = .returned (.int .i64 (termAt l k)) ∧ w' = w := by
  subst hn
  refine (Qerrataref08_Replica_term_run b 0 k w (fun u w' => u = .int .i64 (termAt l k) ∧ w' = w) ?_).mono fun e w' ⟨v, h1, h2, h3⟩ => ⟨by rw [h1, h2], h3⟩
  refine ⟨p, l.length, c, fun _ => by rw [Nat.zero_add]; exact h.row, Br.intro (fun h0 => ?_) (fun h0 => ?_)⟩
  · rw [Bool.or_eq_true, decide_eq_true_eq, decide_eq_true_eq] at h0
    rcases h0 with h0 | h0
    · have h0 : k = 0 := by omega
      subst h0
      exact ⟨rfl, rfl⟩
    · rw [termAt_big (by omega)]
      exact ⟨rfl, rfl⟩
  · rw [Bool.or_eq_false_iff, decide_eq_false_iff_not, decide_eq_false_iff_not] at h0
    obtain ⟨j, rfl⟩ : ∃ j, k = j + 1 := ⟨k - 1, by omega⟩
    have hj : j < l.length := by omega
    obtain ⟨g, hg, hc⟩ := h.log _ _ (recs_at0 hj)
    refine ⟨p, l.length, c, by rw [Nat.zero_add]; exact h.row, by unfold I64; omega, by omega, ptrK_intro g 0 hg ⟨l[j].term, ?_, ?_, rfl⟩⟩
    · rw [show (((j + 1 : Nat) : Int) - 1).toNat = j by omega, Nat.zero_add]
      exact hc
    · rw [termAt_succ hj]

theorem qterm_dr {w : World} {b : Nat} {l : List RecD} {p : Option Addr} {c : Nat} (h : HereQ w b l p c) {n : Int} {k : Nat} (hn : n = k) (h4 : k ≤ 100000) {w0 : World} (e : ∃ m, w0 = w.drewN m) :
    Calls Try.prog F.errataref08_Replica_term #[.pointer (some ⟨b, 0, none⟩), .int .i64 n] w0 fun e w' => e = .returned (.int .i64 (termAt l k)) ∧ ∃ m, w' = w.drewN m := by
  obtain ⟨m, rfl⟩ := e
  exact (qterm_q (h.drew m) hn h4).mono fun e w' ⟨h1, h2⟩ => ⟨h1, m, h2⟩

theorem qterm_use {W w : World} {S : List Own} {Φ : PW} [Stable Φ] {L : Loc} {r : Rep} {p : Option Addr} {c : Nat} (cx : Ctx W w (refO L r p c ++ S) Φ) {n : Int} {k : Nat} (hn : n = k) (h4 : k ≤ 100000) {K : Ending → World → Prop}
    (hK : ∀ w', Ctx W w' (refO L r p c ++ S) Φ → K (.returned (.int .i64 (termAt r.log k))) w') : Calls Try.prog F.errataref08_Replica_term #[.pointer (some ⟨L.b, 0, none⟩), .int .i64 n] w K :=
  (qterm_q (hereQ_of cx) hn h4).mono fun e w' ⟨h1, h2⟩ => by subst h2; rw [h1]; exact hK _ cx

theorem qmessage_use {W w : World} {S : List Own} {Φ : PW} [Stable Φ] {L : Loc} {r : Rep} {p : Option Addr} {c : Nat} (cx : Ctx W w (refO L r p c ++ S) Φ) (kind to : Int) {K : Ending → World → Prop}
    (hK : ∀ w', Ctx W w' (refO L r p c ++ S) Φ → K (.returned ((msgOf r kind to).v none 0)) w') : Calls Try.prog F.errataref08_Replica_message #[.pointer (some ⟨L.b, 0, none⟩), .int .i64 kind, .int .i64 to] w K := by
  refine (Berrataref08_Replica_message_run L.b 0 kind to (J := fun u w' => K (.returned u) w') cx ?_).mono fun e w' ⟨v, he, hj⟩ => by rw [he]; exact hj
  exact fun _ w G cx => ⟨r.id, cx.get 0 rfl rfl, fun w G cx => ⟨r.term, cx.get 0 rfl rfl, fun w G cx => hK w cx.left⟩⟩

/-- a slice of plain data is appended to nothing at all -/
theorem app_nil {P : Program} {W w : World} {S : List Own} {Φ : PW} [Stable Φ] {q : Option Addr} {l : List RecD} {c2 : Nat} (cx : Ctx W w S Φ) (hb : appB P 35 55 2 24 = true) (hsl : ∀ M w, Φ M w → Sl M w q l) (hlen : l.length < 100000000) :
    ∃ p' cap' w', Sem.run P (builtin Builtin.append #[35, 35] 35 #[false, false] #[.slice none 0 0, .slice q l.length c2]) w = .ok (.value (.slice p' l.length cap')) w' ∧ Ctx W w' (.buf p' l.length cap' (recCells l) 55 2 :: S) Φ ∧ ∀ x ∈ l, x.Ok := by
  have c' : Ctx W w (.buf none 0 0 [] 55 2 :: S) Φ := cx.nobuf 55 2
  rcases Nat.eq_zero_or_pos l.length with h0 | h0
  · obtain ⟨i, z, e1, e2, e3, e4, e5, e6⟩ := appB_out hb
    have hl : l = [] := List.eq_nil_of_length_eq_zero h0
    subst hl
    exact ⟨_, _, w, run_app (c'.append0 0 rfl e1 e2 q c2), c', by simp⟩
  · obtain ⟨p', cap', w', news, h2, _, c3⟩ := Ctx.appSl (α := RecD) (ty := 35) (kb := #[false, false]) (c2 := c2) c' hb rec_one hsl h0 (by omega) (by omega)
    rw [Nat.zero_add] at h2 c3
    obtain ⟨rfl, hx⟩ := elems_recs c3.phi.2
    exact ⟨p', cap', w', h2, c3.fst, hx⟩

set_option maxHeartbeats 1000000 in
theorem qentries_use {W w : World} {S : List Own} {Φ : PW} [Stable Φ] {L : Loc} {r : Rep} {p : Option Addr} {c : Nat} (cx : Ctx W w (refO L r p c ++ S) Φ) (hok : ∀ x ∈ r.log, x.Ok) {to : Int} (n : Nat) (hto : to = n) (hf : Fit r n) {K : Ending → World → Prop}
    (hK : ∀ q cap w', (entriesOf r n).recs.length ≤ cap → cap ≤ maxLen → Ctx W w' (refO L r p c ++ S) (fun M w => Φ M w ∧ Sl M w q (entriesOf r n).recs) → K (.returned ((entriesOf r n).v q cap)) w') :
    Calls Try.prog F.errataref08_Replica_entries #[.pointer (some ⟨L.b, 0, none⟩), .int .i64 to] w K := by
  subst hto
  have h1 := hf.lo
  have h2 := hf.hi
  have h3 := hf.len
  have h4 := hf.to
  refine (Berrataref08_Replica_entries_run L.b 0 n (J := fun u w' => K (.returned u) w') cx ?_).mono fun e w' ⟨v, he, hj⟩ => by rw [he]; exact hj
  refine fun _ w G cx => qmessage_use (gl cx) 2 n fun w cx => ⟨_, _, _, _, _, _, _, _, none, _, 0, rfl, refO L r p c ++ S, Φ, inferInstance, gr cx, fun _ w G cx => ⟨some ⟨L.n, 0, none⟩, 3, 3, cx.get 0 rfl rfl, by omega, ptrK_intro L.n 0 rfl fun w G cx => ⟨r.next n, ?_, by unfold I64; omega, by unfold I64; omega, fun w G cx => ?_⟩⟩⟩
  · rw [Nat.zero_add, Int.toNat_natCast]
    exact cx.get 3 rfl (nc_at h4)
  have hnx : ((r.next n : Nat) : Int) - 1 = ((r.next n - 1 : Nat) : Int) := by omega
  rw [hnx]
  have hmin : min ((r.log.length : Nat) : Int) (((r.next n : Nat) : Int) + 7) = ((min r.log.length (r.next n - 1 + 8) : Nat) : Int) := by omega
  refine qterm_use (gl cx) rfl (by omega) fun w cx => ⟨_, rfl, refO L r p c ++ S, Φ, inferInstance, gr cx, fun w G cx => ⟨(r.commit : Int), cx.get 0 rfl rfl, refO L r p c, Φ, inferInstance, fun w G cx => cx.sub (by rw [List.append_assoc]; exact List.Sublist.append_left (List.sublist_append_right _ _) _), by unfold I64; omega, by unfold I64; omega, p, r.log.length, c, fun w G cx => ⟨p, r.log.length, c, cx.get 0 rfl rfl, rfl⟩, p, r.log.length, c, fun w G cx => ⟨p, r.log.length, c, cx.get 0 rfl rfl, rfl⟩, ?_, fun w G cx => ?_⟩⟩
  · have hc := (cx.bufLen 1 rfl).2.1
    omega
  rw [hmin, Int.toNat_natCast, Int.toNat_natCast]
  have hlen : min r.log.length (r.next n - 1 + 8) - (r.next n - 1) = ((r.log.drop (r.next n - 1)).take 8).length := by
    rw [List.length_take, List.length_drop]; omega
  rw [hlen]
  have hc := (cx.bufLen 1 rfl).2.1
  have cx1 : Ctx W w (S ++ G) (Aside W (refO L r p c) Φ) := Ctx.aside (cx.re (List.append_assoc _ _ _))
  obtain ⟨q, cap, w', hrun, cx, _⟩ := app_nil (P := Try.prog) (c2 := c - (r.next n - 1)) cx1 (by kernel_rfl) (fun M w h => Sl.take (addr_sub (log_sl h (p := p) (n := r.log.length) (c := c) (by simp) hok) (r.next n - 1) hc) 8) (by rw [← hlen]; omega)
  obtain ⟨_, hcap1, hcap2⟩ := cx.bufLen 0 rfl
  have cx2 : Ctx W w' (.buf q ((r.log.drop (r.next n - 1)).take 8).length cap (recCells ((r.log.drop (r.next n - 1)).take 8)) 55 2 :: (refO L r p c ++ (S ++ G))) Φ := cx.unaside.perm List.perm_middle
  obtain ⟨cx3, hs, _⟩ := Ctx.freeze (α := RecD) cx2 (recs_elems fun x hx => hok x (List.mem_of_mem_drop (List.mem_of_mem_take hx)))
  have hst : Stable (fun M w => Φ M w ∧ Sl M w q ((r.log.drop (r.next n - 1)).take 8)) := inferInstance
  exact ⟨q, _, cap, w', hrun, refO L r p c ++ S, fun M w => Φ M w ∧ Sl M w q ((r.log.drop (r.next n - 1)).take 8), hst, gr (cx3.add hs), fun w G cx => hK q cap w hcap1 hcap2 cx.left⟩

end Go.Proofs.Ytifgijoeckoojaa
end

/-
  The reference's replica: all, Tick, vote.
-/
section
set_option linter.unusedVariables false
set_option linter.unusedSimpArgs false
namespace Go.Proofs.Ytifgijoeckoojaa
open Go.Vc

/-- what follows a call that turns the reference's replica into r', with the result o -/
def OutQ (W : World) (S : List Own) (Φ : PW) (b : Nat) (r' : Rep) (o : OutR) (K : Value → World → Prop) : Prop :=
  ∀ L' p' c' q1 c1 q2 c2 w', L'.b = b → o.recs.length ≤ c1 → c1 ≤ maxLen → o.send.length ≤ c2 → c2 ≤ maxLen → Ctx W w' (refO L' r' p' c' ++ S) (OPhi Φ q1 o.recs q2 o.send) → K (outV o q1 c1 q2 c2) w'

theorem OutQ.zero {W w : World} {S : List Own} {Φ : PW} {L : Loc} {r' : Rep} {K : Value → World → Prop} {p : Option Addr} {c : Nat} (h : OutQ W S Φ L.b r' out0 K) (cx : Ctx W w (refO L r' p c ++ S) Φ) : K (outV out0 none 0 none 0) w :=
  h L p c none 0 none 0 w rfl (Nat.le_refl _) (by simp [maxLen]) (Nat.le_refl _) (by simp [maxLen]) (cx.weak fun M w h => ⟨h, Sl.nil, Sl.nil⟩)

theorem OutQ.sent {W w : World} {S : List Own} {Φ : PW} {L : Loc} {r' : Rep} {K : Value → World → Prop} {p : Option Addr} {c : Nat} {l : List MsgR} {q : Option Addr} {cap : Nat} (h : OutQ W S Φ L.b r' (outS l) K) (h1 : l.length ≤ cap) (h2 : cap ≤ maxLen)
    (cx : Ctx W w (refO L r' p c ++ S) (fun M w => Φ M w ∧ Sl M w q l)) : K (outV (outS l) none 0 q cap) w :=
  h L p c none 0 q cap w rfl (Nat.le_refl _) (by simp [maxLen]) h1 h2 (cx.weak fun M w h => ⟨h.1, Sl.nil, h.2⟩)

/-- one message, in a block of its own -/
theorem OutQ.one {W w : World} {S G : List Own} {Φ : PW} [Stable Φ] {L : Loc} {r' : Rep} {K : Value → World → Prop} {p : Option Addr} {c k : Nat} {m : MsgR} (h : OutQ W S Φ L.b r' (outS [m]) K) (hm : m.Ok) (hr : m.recs = [])
    (cx : Ctx W w (.blk k (m.cells none 0) 37 :: (refO L r' p c ++ S) ++ G) Φ) : K (outV (outS [m]) none 0 (some ⟨k, 0, none⟩) 1) w := by
  have cx0 : Ctx W w (.blk k (m.cells none 0) 37 :: ((refO L r' p c ++ S) ++ G)) Φ := cx
  obtain ⟨cx1, hs⟩ := cx0.freezeBlk (Elems.one (rep_msg (x := m) hm (by rw [hr]; exact Nat.le_refl _) (by simp [maxLen]) (by rw [hr]; exact Sl.nil)))
  have hst : Stable (fun M w => Φ M w ∧ Sl M w (some ⟨k, 0, none⟩) [m]) := inferInstance
  exact h.sent (by simp) (by simp [maxLen]) (Ctx.left (F := G) (Φ := fun M w => Φ M w ∧ Sl M w (some ⟨k, 0, none⟩) [m]) (cx1.add hs))

theorem put_ref {W w w' : World} {S : List Own} {Φ : PW} [Stable Φ] {L : Loc} {r : Rep} {p : Option Addr} {c : Nat} (cx : Ctx W w (refO L r p c ++ S) Φ) {i : Nat} {v : Value} (e : w' = w.setCell ⟨L.b, i, none⟩ v) (r' : Rep) (hc : (r.qcells L p c).set i v = r'.qcells L p c) (hl : r'.log = r.log)
    (hv : r'.vc = r.vc) (hn : r'.nc = r.nc) (hm : r'.mc = r.mc) : Ctx W w' (refO L r' p c ++ S) Φ := by
  show Ctx W w' (.blk L.b (r'.qcells L p c) 67 :: .buf p r'.log.length c (recCells r'.log) 55 2 :: .blk L.v r'.vc 4 :: .blk L.n r'.nc 3 :: .blk L.m r'.mc 3 :: S) Φ
  rw [← hc, hl, hv, hn, hm]
  exact cx.put 0 e rfl

theorem puts_ref {W w w' : World} {S : List Own} {Φ : PW} [Stable Φ] {L : Loc} {r : Rep} {p : Option Addr} {c : Nat} (cx : Ctx W w (refO L r p c ++ S) Φ) {i : Nat} {vs : List Value} (e : w' = w.setCells L.b i vs) (r' : Rep) (hc : setL (r.qcells L p c) i vs = r'.qcells L p c) (hl : r'.log = r.log)
    (hv : r'.vc = r.vc) (hn : r'.nc = r.nc) (hm : r'.mc = r.mc) : Ctx W w' (refO L r' p c ++ S) Φ := by
  show Ctx W w' (.blk L.b (r'.qcells L p c) 67 :: .buf p r'.log.length c (recCells r'.log) 55 2 :: .blk L.v r'.vc 4 :: .blk L.n r'.nc 3 :: .blk L.m r'.mc 3 :: S) Φ
  rw [← hc, hl, hv, hn, hm]
  exact cx.puts 0 e rfl

theorem set_v {r : Rep} {i : Nat} (x : Bool) (h : i < 3) : r.vc.set i (.bool x) = { r with votes := put r.votes i x }.vc := by
  match i, h with
  | 0, _ => rfl
  | 1, _ => rfl
  | 2, _ => rfl
theorem set_n {r : Rep} {i : Nat} (x : Nat) (h : i < 3) : r.nc.set i (.int .i64 x) = { r with next := put r.next i x }.nc := by
  match i, h with
  | 0, _ => rfl
  | 1, _ => rfl
  | 2, _ => rfl
theorem set_m {r : Rep} {i : Nat} (x : Nat) (h : i < 3) : r.mc.set i (.int .i64 x) = { r with mat := put r.mat i x }.mc := by
  match i, h with
  | 0, _ => rfl
  | 1, _ => rfl
  | 2, _ => rfl

theorem putv_ref {W w w' : World} {S : List Own} {Φ : PW} [Stable Φ] {L : Loc} {r : Rep} {p : Option Addr} {c : Nat} (cx : Ctx W w (refO L r p c ++ S) Φ) {i : Nat} {x : Bool} (hi : i < 3) (e : w' = w.setCell ⟨L.v, i, none⟩ (.bool x)) : Ctx W w' (refO L { r with votes := put r.votes i x } p c ++ S) Φ := by
  have := cx.put 2 e rfl
  rw [set_v (r := r) x hi] at this
  exact this
theorem putn_ref {W w w' : World} {S : List Own} {Φ : PW} [Stable Φ] {L : Loc} {r : Rep} {p : Option Addr} {c : Nat} (cx : Ctx W w (refO L r p c ++ S) Φ) {i x : Nat} (hi : i < 3) (e : w' = w.setCell ⟨L.n, i, none⟩ (.int .i64 x)) : Ctx W w' (refO L { r with next := put r.next i x } p c ++ S) Φ := by
  have := cx.put 3 e rfl
  rw [set_n (r := r) x hi] at this
  exact this
theorem putm_ref {W w w' : World} {S : List Own} {Φ : PW} [Stable Φ] {L : Loc} {r : Rep} {p : Option Addr} {c : Nat} (cx : Ctx W w (refO L r p c ++ S) Φ) {i x : Nat} (hi : i < 3) (e : w' = w.setCell ⟨L.m, i, none⟩ (.int .i64 x)) : Ctx W w' (refO L { r with mat := put r.mat i x } p c ++ S) Φ := by
  have := cx.put 4 e rfl
  rw [set_m (r := r) x hi] at this
  exact this

/-! ### all -/
/-- the messages to the others below i -/
def upto (f : Nat → MsgR) (id i : Nat) : List MsgR := ((List.range i).filter fun j => decide (j ≠ id)).map f

theorem upto_succ (f : Nat → MsgR) (id i : Nat) : upto f id (i + 1) = upto f id i ++ (if i = id then [] else [f i]) := by
  unfold upto
  rw [List.range_succ, List.filter_append, List.map_append]
  congr 1
  by_cases h : i = id <;> simp [h]

theorem upto_three (f : Nat → MsgR) {id : Nat} (h : id ≤ 2) : upto f id 3 = (othersOf id).map f := by
  have : id = 0 ∨ id = 1 ∨ id = 2 := by omega
  rcases this with rfl | rfl | rfl <;> rfl

theorem upto_len (f : Nat → MsgR) (id i : Nat) : (upto f id i).length ≤ i := by
  unfold upto
  rw [List.length_map]
  exact Nat.le_trans (List.length_filter_le _ _) (by simp)

set_option maxHeartbeats 1000000 in
theorem qall_use {W w : World} {S : List Own} {Φ : PW} [Stable Φ] {L : Loc} {r : Rep} {p : Option Addr} {c : Nat} (cx : Ctx W w (refO L r p c ++ S) Φ) (hr : r.Ok) (hf : ∀ i, i < 3 → Fit r i) {K : Ending → World → Prop}
    (hK : ∀ q cap w', (allOf r).length ≤ cap → cap ≤ maxLen → Ctx W w' (refO L r p c ++ S) (fun M w => Φ M w ∧ Sl M w q (allOf r)) → K (.returned (.slice q (allOf r).length cap)) w') :
    Calls Try.prog F.errataref08_Replica_all #[.pointer (some ⟨L.b, 0, none⟩)] w K := by
  have hid := hr.id
  have hal : allOf r = upto (fun i => entriesOf r i) r.id 3 := (upto_three _ hr.id).symm
  refine (Berrataref08_Replica_all_run L.b 0 (J := fun u w' => K (.returned u) w') cx ?_).mono fun e w' ⟨v, he, hj⟩ => by rw [he]; exact hj
  refine exI_mk (fun q n cap iI R' Φ' m => ∃ (i : Nat) (gs : List Value), iI = i ∧ n = (upto (fun i => entriesOf r i) r.id i).length ∧ i ≤ 3 ∧ R' = refO L r p c ++ (.buf q n cap gs 37 9 :: S) ∧ Φ' = (fun M w => Φ M w ∧ Elems M w gs (upto (fun i => entriesOf r i) r.id i)) ∧ m = 3 - i)
    ⟨⟨_, fun M w => Φ M w ∧ Elems M w [] (upto (fun i => entriesOf r i) r.id 0), _, inferInstance, fun w G cx => gr (Q := refO L r p c) (T := .buf none 0 0 [] 37 9 :: S) (mid ((gl (Q := refO L r p c) (cx.weak (Ψ := fun M w => Φ M w ∧ Elems M w [] (upto (fun i => entriesOf r i) r.id 0)) fun M w h => ⟨h, Elems.nil⟩)).nobuf 37 9)), 0, [], rfl, rfl, Nat.zero_le _, rfl, rfl, rfl⟩, ?_⟩
  rintro q n cap iI R1 Φ1 m _ ⟨i, gs, rfl, rfl, hi, rfl, rfl, rfl⟩
  have hul := upto_len (fun i => entriesOf r i) r.id i
  refine Br.intro (fun hlt => fun w G cx => ⟨r.id, cx.get 0 rfl rfl, Br.intro (fun hne => fun w G cx => ?_) (fun hne => ?_)⟩) (fun hge => fun w G cx => ?_)
  · have hlt : i < 3 := by have := of_decide_eq_true hlt; omega
    have hne : i ≠ r.id := by have := of_decide_eq_true hne; omega
    have hfn := hf i hlt
    have hst : Stable (fun M w => Φ M w ∧ Elems M w gs (upto (fun i => entriesOf r i) r.id i)) := inferInstance
    refine qentries_use (Φ := fun M w => Φ M w ∧ Elems M w gs (upto (fun i => entriesOf r i) r.id i)) (gl cx) hr.recs i rfl hfn fun q2 cap2 w h1 h2 cx => ?_
    have hst2 : Stable (fun M w => (Φ M w ∧ Elems M w gs (upto (fun i => entriesOf r i) r.id i)) ∧ Sl M w q2 (entriesOf r i).recs) := inferInstance
    refine ⟨_, _, _, _, _, _, _, _, q2, _, cap2, rfl, refO L r p c ++ (.buf q (upto (fun i => entriesOf r i) r.id i).length cap gs 37 9 :: S), fun M w => (Φ M w ∧ Elems M w gs (upto (fun i => entriesOf r i) r.id i)) ∧ Sl M w q2 (entriesOf r i).recs, hst2, gr cx, fun k2 w G cx => ?_⟩
    have cx1 : Ctx W w (.blk k2 ((entriesOf r i).cells q2 cap2) 37 :: .buf q (upto (fun i => entriesOf r i) r.id i).length cap gs 37 9 :: (refO L r p c ++ (S ++ G))) (fun M w => (Φ M w ∧ Elems M w gs (upto (fun i => entriesOf r i) r.id i)) ∧ Sl M w q2 (entriesOf r i).recs) := by
      exact cx.perm (List.Perm.cons _ ((List.Perm.of_eq (List.append_assoc _ _ _)).trans List.perm_middle))
    obtain ⟨p', cap', w', hrun, _, cx'⟩ := Ctx.app1 (P := Try.prog) (ts := 27) (ty := 27) (kb := #[false, false]) (size := 9) (bytes := 88) cx1 (by kernel_rfl) (by omega) rfl rfl (by omega) (by omega)
    have hu : upto (fun i => entriesOf r i) r.id (i + 1) = upto (fun i => entriesOf r i) r.id i ++ [entriesOf r i] := by rw [upto_succ, if_neg hne]
    have hun : (upto (fun i => entriesOf r i) r.id i).length + 1 = (upto (fun i => entriesOf r i) r.id (i + 1)).length := by rw [hu, List.length_append]; rfl
    rw [hun] at hrun cx'
    have hst3 : Stable (fun M w => Φ M w ∧ Elems M w (gs ++ (entriesOf r i).cells q2 cap2) (upto (fun i => entriesOf r i) r.id (i + 1))) := inferInstance
    refine ⟨p', _, cap', w', hrun, refO L r p c ++ (.buf p' (upto (fun i => entriesOf r i) r.id (i + 1)).length cap' (gs ++ (entriesOf r i).cells q2 cap2) 37 9 :: S), fun M w => Φ M w ∧ Elems M w (gs ++ (entriesOf r i).cells q2 cap2) (upto (fun i => entriesOf r i) r.id (i + 1)), hst3, gr (mid ((cx'.weak fun M w h => ⟨h.1.1, ?_⟩))), by unfold I64; omega, _, _, 3 - (i + 1), hst3, fun w G cx => cx, ⟨i + 1, _, by omega, rfl, by omega, rfl, rfl, rfl⟩, by omega⟩
    rw [hu]
    exact h.1.2.snoc (rep_msg (entries_ok hr hfn) h1 h2 h.2)
  · have hlt : i < 3 := by have := of_decide_eq_true hlt; omega
    have hne : i = r.id := by have := of_decide_eq_false hne; omega
    have hu : upto (fun i => entriesOf r i) r.id (i + 1) = upto (fun i => entriesOf r i) r.id i := by rw [upto_succ, if_pos hne, List.append_nil]
    have hst : Stable (fun M w => Φ M w ∧ Elems M w gs (upto (fun i => entriesOf r i) r.id i)) := inferInstance
    exact ⟨by unfold I64; omega, _, _, 3 - (i + 1), hst, fun w G cx => cx, ⟨i + 1, gs, by omega, by rw [hu], by omega, rfl, by rw [hu], rfl⟩, by omega⟩
  · have hge : i = 3 := by have := of_decide_eq_false hge; omega
    subst hge
    have hst : Stable (fun M w => Φ M w ∧ Elems M w gs (upto (fun i => entriesOf r i) r.id 3)) := inferInstance
    have cx1 := front (gl cx)
    have h := cx1.phi.2
    rw [← hal] at h cx1 ⊢
    obtain ⟨cx3, hs, _, hcap, hmax⟩ := Ctx.freeze (α := MsgR) cx1.fst h
    exact hK q cap w hcap hmax (Ctx.left (F := G) (Φ := fun M w => Φ M w ∧ Sl M w q (allOf r)) (gr (cx3.add hs)))

end Go.Proofs.Ytifgijoeckoojaa
end

/-
  The reference's replica: Tick, vote.
-/
section
set_option linter.unusedVariables false
set_option linter.unusedSimpArgs false
namespace Go.Proofs.Ytifgijoeckoojaa
open Go.Vc


/-- a new block of votes -/
theorem new_votes {W w w' : World} {S : List Own} {Φ : PW} [Stable Φ] {L : Loc} {r : Rep} {p : Option Addr} {c k : Nat} (cx : Ctx W w (.blk k [.bool false, .bool false, .bool false] 4 :: (refO L r p c ++ S)) Φ) (e : w' = w.setCell ⟨L.b, 6, none⟩ (.slice (some ⟨k, 0, none⟩) 3 3)) :
    Ctx W w' (refO { L with v := k } { r with votes := fun _ => false } p c ++ S) Φ := by
  have h1 := cx.put 1 e rfl
  have h2 : Ctx W w' ([.blk k [.bool false, .bool false, .bool false] 4, .blk L.b (({ r with votes := fun _ => false } : Rep).qcells { L with v := k } p c) 67, .buf p r.log.length c (recCells r.log) 55 2] ++ (.blk L.n r.nc 3 :: .blk L.m r.mc 3 :: S)) Φ :=
    h1.sub (List.Sublist.cons_cons _ (List.Sublist.cons_cons _ (List.Sublist.cons_cons _ (List.sublist_cons_self _ _))))
  exact h2.perm (List.perm_middle (l₁ := [Own.blk L.b (({ r with votes := fun _ => false } : Rep).qcells { L with v := k } p c) 67, Own.buf p r.log.length c (recCells r.log) 55 2])).symm

set_option maxHeartbeats 2000000 in
theorem qTick_use {W w : World} {S : List Own} {Φ : PW} [Stable Φ] {L : Loc} {r : Rep} {p : Option Addr} {c : Nat} (cx : Ctx W w (refO L r p c ++ S) Φ) (hr : r.Ok) {K : Ending → World → Prop}
    (hK : OutQ W S Φ L.b (tickP r).1 (tickP r).2 fun v w => K (.returned v) w) : Calls Try.prog F.errataref08_Replica_Tick #[.pointer (some ⟨L.b, 0, none⟩)] w K := by
  have hlen := hr.len
  have hid := hr.id
  have ht0 := hr.term0
  have htM := hr.termM
  refine (Berrataref08_Replica_Tick_run L.b 0 (J := fun u w' => K (.returned u) w') cx ?_).mono fun e w' ⟨v, he, hj⟩ => by rw [he]; exact hj
  refine fun _ w G cx => ⟨r.role, cx.get 0 rfl rfl, Br.intro (fun h => fun w G cx => ?_) (fun h => fun w G cx => ⟨r.term, cx.get 0 rfl rfl, Br.intro (fun h2 => fun w G cx => ?_) (fun h2 => fun w G cx => ?_)⟩)⟩
  · have h := of_decide_eq_true h
    rw [tick_lead h] at hK
    refine qall_use (gl cx) hr (fun i hi => hr.fit h hi) fun q cap w h1 h2 cx => ⟨q, _, cap, rfl, refO L r p c ++ S, fun M w => Φ M w ∧ Sl M w q (allOf r), inferInstance, gr cx, fun w G cx => hK.sent h1 h2 (Ctx.left (F := G) (Φ := fun M w => Φ M w ∧ Sl M w q (allOf r)) cx)⟩
  · rw [tick_max (of_decide_eq_false h) (of_decide_eq_true h2)] at hK
    exact hK.zero cx.left
  have h := of_decide_eq_false h
  have h2 := of_decide_eq_false h2
  rw [tick_ask h h2] at hK
  have hao := ask_ok hr h h2
  refine ⟨r.id, cx.get 0 rfl rfl, fun w G cx => ⟨r.term, cx.get 0 rfl rfl, by unfold I64; omega, fun w G cx => ⟨cx.can 0 rfl (by simp), fun w' hw' => ?_⟩⟩⟩
  have cx1 := gr (puts_ref (gl cx) hw' { r with term := r.term + 1, vote := r.id } rfl rfl rfl rfl rfl)
  refine ⟨_, Φ, inferInstance, cx1, fun w G cx => ⟨cx.can 0 rfl (by simp), fun w' hw' => ?_⟩⟩
  have cx1 := gr (put_ref (gl cx) hw' { r with term := r.term + 1, vote := r.id, role := 1 } rfl rfl rfl rfl rfl)
  refine ⟨_, Φ, inferInstance, cx1, by omega, fun k w G cx => ⟨cx.can 1 rfl (by simp), fun w' hw' => ?_⟩⟩
  have cx1 := gr (new_votes (S := S ++ G) (r := { r with term := r.term + 1, vote := r.id, role := 1 }) (p := p) (c := c) (L := L) (cx.re (by simp)) hw')
  refine ⟨_, Φ, inferInstance, cx1, fun w G cx => ⟨some ⟨k, 0, none⟩, 3, 3, cx.get 0 rfl rfl, fun w G cx => ⟨r.id, cx.get 0 rfl rfl, by omega, ptrK_intro k 0 rfl fun w G cx => ⟨cx.can 2 rfl (by rw [Int.toNat_natCast]; simp; omega), fun w' hw' => ?_⟩⟩⟩⟩
  have hvo : ({ r with term := r.term + 1, vote := r.id, role := 1, votes := put (fun _ => false) r.id true } : Rep) = askR r := by
    unfold askR
    congr 1
  rw [Int.toNat_natCast, Nat.zero_add] at hw'
  have cx1 := gr (putv_ref (gl cx) (by omega : r.id < 3) hw')
  have cx1 : Ctx W w' (refO { L with v := k } (askR r) p c ++ S ++ G) Φ := by rw [← hvo]; exact cx1
  clear hw' cx
  generalize hL : ({ L with v := k } : Loc) = L2 at cx1
  have hLb : L2.b = L.b := by rw [← hL]
  rw [← hLb]
  clear hL
  obtain ⟨f, hf⟩ : ∃ f, (fun i => askOf (askR r) i) = f := ⟨_, rfl⟩
  rw [hf, ← upto_three f hid] at hK
  refine ⟨_, Φ, inferInstance, cx1, fun w G cx => ⟨_, _, cx.row 0 rfl (rows_of (vs := [.int .i64 (r.term + 1), .int .i64 r.id]) rfl), fun _ => ?_⟩⟩
  refine exI_mk (fun iI sv tm vt fr rp rn rc q n cap R' Φ' m => ∃ (i : Nat) (gs : List Value), iI = i ∧ n = (upto f r.id i).length ∧ i ≤ 3 ∧ sv = true ∧ tm = r.term + 1 ∧ vt = r.id ∧ fr = 0 ∧ rn = 0 ∧ rp = none ∧ rc = 0 ∧ R' = refO L2 (askR r) p c ++ (.buf q n cap gs 37 9 :: S) ∧ Φ' = (fun M w => Φ M w ∧ Elems M w gs (upto f r.id i)) ∧ m = 3 - i)
    ⟨⟨_, fun M w => Φ M w ∧ Elems M w [] (upto f r.id 0), _, inferInstance, fun w G cx => gr (Q := refO L2 (askR r) p c) (T := .buf none 0 0 [] 37 9 :: S) (mid ((gl (Q := refO L2 (askR r) p c) (cx.weak (Ψ := fun M w => Φ M w ∧ Elems M w [] (upto f r.id 0)) fun M w h => ⟨h, Elems.nil⟩)).nobuf 37 9)), 0, [], rfl, rfl, Nat.zero_le _, rfl, rfl, rfl, rfl, rfl, rfl, rfl, rfl, rfl, rfl⟩, ?_⟩
  rintro iI _ _ _ _ _ _ _ q n cap R1 Φ1 m _ ⟨i, gs, rfl, rfl, hi, rfl, rfl, rfl, rfl, rfl, rfl, rfl, rfl, rfl, rfl⟩
  have hul := upto_len f r.id i
  have hst : Stable (fun M w => Φ M w ∧ Elems M w gs (upto f r.id i)) := inferInstance
  refine Br.intro (fun hlt => fun w G cx => ⟨r.id, cx.get 0 rfl rfl, Br.intro (fun hne => fun w G cx => ?_) (fun hne => ?_)⟩) (fun hge => fun w G cx => ?_)
  · have hlt : i < 3 := by have := of_decide_eq_true hlt; omega
    have hne : i ≠ r.id := by have := of_decide_eq_true hne; omega
    refine qmessage_use (Φ := fun M w => Φ M w ∧ Elems M w gs (upto f r.id i)) (gl cx) 0 i fun w cx => ⟨_, _, _, _, _, _, _, _, none, _, 0, rfl, _, _, hst, gr cx, fun _ w G cx => ⟨p, r.log.length, c, cx.get 0 rfl rfl, fun w G cx => ⟨p, r.log.length, c, cx.get 0 rfl rfl, fun w G cx => ?_⟩⟩⟩
    refine qterm_use (r := askR r) (gl cx) rfl (by omega) fun w cx => ⟨_, rfl, _, _, hst, gr cx, fun k2 w G cx => ?_⟩
    have cx1 : Ctx W w (.blk k2 ((askOf (askR r) i).cells none 0) 37 :: .buf q (upto f r.id i).length cap gs 37 9 :: (refO L2 (askR r) p c ++ (S ++ G))) (fun M w => Φ M w ∧ Elems M w gs (upto f r.id i)) := by
      exact cx.perm (List.Perm.cons _ ((List.Perm.of_eq (List.append_assoc _ _ _)).trans List.perm_middle))
    obtain ⟨p', cap', w', hrun, _, cx'⟩ := Ctx.app1 (P := Try.prog) (ts := 27) (ty := 27) (kb := #[false, false]) (size := 9) (bytes := 88) cx1 (by kernel_rfl) (by omega) rfl rfl (by omega) (by omega)
    have hu : upto f r.id (i + 1) = upto f r.id i ++ [askOf (askR r) i] := by rw [upto_succ, if_neg hne, ← hf]
    have hun : (upto f r.id i).length + 1 = (upto f r.id (i + 1)).length := by rw [hu, List.length_append]; rfl
    rw [hun] at hrun cx'
    have hst3 : Stable (fun M w => Φ M w ∧ Elems M w (gs ++ (askOf (askR r) i).cells none 0) (upto f r.id (i + 1))) := inferInstance
    refine ⟨p', _, cap', w', hrun, refO L2 (askR r) p c ++ (.buf p' (upto f r.id (i + 1)).length cap' (gs ++ (askOf (askR r) i).cells none 0) 37 9 :: S), fun M w => Φ M w ∧ Elems M w (gs ++ (askOf (askR r) i).cells none 0) (upto f r.id (i + 1)), hst3, gr (mid ((cx'.weak fun M w h => ⟨h.1, ?_⟩))), by unfold I64; omega, _, _, 3 - (i + 1), hst3, fun w G cx => cx, ⟨i + 1, _, by omega, rfl, by omega, rfl, rfl, rfl, rfl, rfl, rfl, rfl, rfl, rfl, rfl⟩, by omega⟩
    rw [hu]
    exact h.2.snoc (rep_msg (askOf_ok hao i hlt) (Nat.le_refl _) (by simp [maxLen]) Sl.nil)
  · have hlt : i < 3 := by have := of_decide_eq_true hlt; omega
    have hne : i = r.id := by have := of_decide_eq_false hne; omega
    have hu : upto f r.id (i + 1) = upto f r.id i := by rw [upto_succ, if_pos hne, List.append_nil]
    exact ⟨by unfold I64; omega, _, _, 3 - (i + 1), hst, fun w G cx => cx, ⟨i + 1, gs, by omega, by rw [hu], by omega, rfl, rfl, rfl, rfl, rfl, rfl, rfl, rfl, by rw [hu], rfl⟩, by omega⟩
  · have hge : i = 3 := by have := of_decide_eq_false hge; omega
    subst hge
    have cx1 := front (gl cx)
    have h := cx1.phi.2
    obtain ⟨cx3, hs, _, hcap, hmax⟩ := Ctx.freeze (α := MsgR) cx1.fst h
    have hst4 : Stable (fun M w => Φ M w ∧ Sl M w q (upto f r.id 3)) := inferInstance
    exact hK L2 p c none 0 q cap w hLb (Nat.le_refl _) (by simp [maxLen]) hcap hmax ((Ctx.left (F := G) (Φ := fun M w => Φ M w ∧ Sl M w q (upto f r.id 3)) (gr (cx3.add hs))).weak fun M w h => ⟨h.1, Sl.nil, h.2⟩)

/-! ### vote -/
set_option maxHeartbeats 1000000 in
theorem qvote_use {W w : World} {S : List Own} {Φ : PW} [Stable Φ] {L : Loc} {r : Rep} {p : Option Addr} {c : Nat} (cx : Ctx W w (refO L r p c ++ S) Φ) (hr : r.Ok) (m : MsgR) (q : Option Addr) (qc : Nat) (h1 : 0 ≤ m.src) (h2 : m.src ≤ 2) {K : Ending → World → Prop}
    (hK : OutQ W S Φ L.b (voteP r m).1 (voteP r m).2 fun v w => K (.returned v) w) : Calls Try.prog F.errataref08_Replica_vote #[.pointer (some ⟨L.b, 0, none⟩), m.v q qc] w K := by
  have hlen := hr.len
  obtain ⟨C, hC⟩ : ∃ C : Prop, C = ((m.term = r.term ∧ (r.vote = -1 ∨ r.vote = m.src)) ∧ (termAt r.log r.log.length < m.prev ∨ m.prev = termAt r.log r.log.length ∧ (r.log.length : Int) ≤ m.index)) := ⟨_, rfl⟩
  have hY : C → ∀ y, y = true → OutQ W S Φ L.b { r with vote := m.src } (outS [⟨1, r.id, m.src, r.term, 0, 0, 0, y, []⟩]) fun v w => K (.returned v) w := by
    rintro hc _ rfl
    have hv : voteP r m = ({ r with vote := m.src }, outS [⟨1, r.id, m.src, r.term, 0, 0, 0, true, []⟩]) := by
      unfold voteP freshP
      rw [if_pos]
      simp only [Bool.and_eq_true, Bool.or_eq_true, decide_eq_true_eq]
      rw [hC] at hc; exact hc
    rw [hv] at hK; exact hK
  have hN : ¬ C → ∀ y, y = false → OutQ W S Φ L.b r (outS [⟨1, r.id, m.src, r.term, 0, 0, 0, y, []⟩]) fun v w => K (.returned v) w := by
    rintro hc _ rfl
    have hv : voteP r m = (r, outS [msgOf r 1 m.src]) := by
      unfold voteP freshP
      rw [if_neg]
      simp only [Bool.and_eq_true, Bool.or_eq_true, decide_eq_true_eq]
      rw [hC] at hc; exact hc
    rw [hv] at hK; exact hK
  have hmo : ∀ y, (⟨1, r.id, m.src, r.term, 0, 0, 0, y, []⟩ : MsgR).Ok := fun y => msg_ok0 hr (by omega) (by omega) (by omega) (by omega)
  refine (Berrataref08_Replica_vote_run L.b 0 m.kind m.src m.to m.term m.index m.prev m.commit m.yes q m.recs.length qc (J := fun u w' => K (.returned u) w') cx ?_).mono fun e w' ⟨v, he, hj⟩ => by rw [he]; exact hj
  refine fun _ _ w G cx => qmessage_use (gl cx) 1 m.src fun w cx => ⟨_, _, _, _, _, _, _, _, none, _, 0, rfl, refO L r p c ++ S, Φ, inferInstance, gr cx, fun _ w G cx => ⟨p, r.log.length, c, cx.get 0 rfl rfl, fun w G cx => qterm_use (gl cx) rfl (by omega) fun w cx => ⟨_, rfl, refO L r p c ++ S, Φ, inferInstance, gr cx, fun w G cx => ⟨r.term, cx.get 0 rfl rfl, Br.intro (fun g1 => fun w G cx => ⟨r.vote, cx.get 0 rfl rfl, Br.intro (fun g2 => ?_) (fun g2 => fun w G cx => ⟨r.vote, cx.get 0 rfl rfl, Br.intro (fun g3 => ?_) (fun g3 => fun k w G cx => ?_)⟩)⟩) (fun g1 => fun k w G cx => ?_)⟩⟩⟩⟩
  · refine Br.intro (fun g4 => fun w G cx => ⟨cx.can 0 rfl (by simp), fun w' hw' => ⟨_, Φ, inferInstance, gr (put_ref (gl cx) hw' { r with vote := m.src } rfl rfl rfl rfl rfl), fun k w G cx => ?_⟩⟩) (fun g4 => Br.intro (fun g5 => fun w G cx => ⟨p, r.log.length, c, cx.get 0 rfl rfl, Br.intro (fun g6 => fun w G cx => ⟨cx.can 0 rfl (by simp), fun w' hw' => ⟨_, Φ, inferInstance, gr (put_ref (gl cx) hw' { r with vote := m.src } rfl rfl rfl rfl rfl), fun k w G cx => ?_⟩⟩) (fun g6 => fun k w G cx => ?_)⟩) (fun g5 => fun k w G cx => ?_))
    · exact (hY (by rw [hC]; have := of_decide_eq_true g1; have := of_decide_eq_true g2; have := of_decide_eq_true g4; omega) true rfl).one (hmo _) rfl cx
    · exact (hY (by rw [hC]; have := of_decide_eq_true g1; have := of_decide_eq_true g2; have := of_decide_eq_false g4; have := of_decide_eq_true g5; have := of_decide_eq_true g6; omega) _ g6).one (hmo _) rfl cx
    · exact (hN (by rw [hC]; have := of_decide_eq_true g1; have := of_decide_eq_true g2; have := of_decide_eq_false g4; have := of_decide_eq_true g5; have := of_decide_eq_false g6; omega) _ g6).one (hmo _) rfl cx
    · exact (hN (by rw [hC]; have := of_decide_eq_true g1; have := of_decide_eq_true g2; have := of_decide_eq_false g4; have := of_decide_eq_false g5; omega) false rfl).one (hmo _) rfl cx
  · refine Br.intro (fun g4 => fun w G cx => ⟨cx.can 0 rfl (by simp), fun w' hw' => ⟨_, Φ, inferInstance, gr (put_ref (gl cx) hw' { r with vote := m.src } rfl rfl rfl rfl rfl), fun k w G cx => ?_⟩⟩) (fun g4 => Br.intro (fun g5 => fun w G cx => ⟨p, r.log.length, c, cx.get 0 rfl rfl, Br.intro (fun g6 => fun w G cx => ⟨cx.can 0 rfl (by simp), fun w' hw' => ⟨_, Φ, inferInstance, gr (put_ref (gl cx) hw' { r with vote := m.src } rfl rfl rfl rfl rfl), fun k w G cx => ?_⟩⟩) (fun g6 => fun k w G cx => ?_)⟩) (fun g5 => fun k w G cx => ?_))
    · exact (hY (by rw [hC]; have := of_decide_eq_true g1; have := of_decide_eq_true g3; have := of_decide_eq_true g4; omega) true rfl).one (hmo _) rfl cx
    · exact (hY (by rw [hC]; have := of_decide_eq_true g1; have := of_decide_eq_true g3; have := of_decide_eq_false g4; have := of_decide_eq_true g5; have := of_decide_eq_true g6; omega) _ g6).one (hmo _) rfl cx
    · exact (hN (by rw [hC]; have := of_decide_eq_true g1; have := of_decide_eq_true g3; have := of_decide_eq_false g4; have := of_decide_eq_true g5; have := of_decide_eq_false g6; omega) _ g6).one (hmo _) rfl cx
    · exact (hN (by rw [hC]; have := of_decide_eq_true g1; have := of_decide_eq_true g3; have := of_decide_eq_false g4; have := of_decide_eq_false g5; omega) false rfl).one (hmo _) rfl cx
  · exact (hN (by rw [hC]; have := of_decide_eq_false g2; have := of_decide_eq_false g3; omega) false rfl).one (hmo _) rfl cx
  · exact (hN (by rw [hC]; have := of_decide_eq_false g1; omega) false rfl).one (hmo _) rfl cx

end Go.Proofs.Ytifgijoeckoojaa
end

/-
  The reference's replica: sound, Right, voted.
-/
section
set_option linter.unusedVariables false
set_option linter.unusedSimpArgs false
namespace Go.Proofs.Ytifgijoeckoojaa
open Go.Vc


theorem qsound_in {Φ : PW} [Stable Φ] (p : Option Addr) (cap : Nat) (l : List RecD) (least most : Int) (hΦ : ∀ M w, Φ M w → Sl M w p l) (hlen : l.length ≤ 9223372036854775807) :
    GivesIn Φ Try.prog F.errataref08_sound #[.slice p l.length cap, .int .i64 least, .int .i64 most] (.bool (soundR l least most)) := by
  refine .there (fun M w h => (hΦ M w h).there) fun hth => ?_
  refine gives_in (Berrataref08_sound_run p l.length cap least most) fun W R => ?_
  refine exI_mk (fun le n R' Φ' k => ∃ i : Nat, n = i ∧ i ≤ l.length ∧ R' = R ∧ Φ' = Φ ∧ k = l.length - i ∧ soundR l least most = soundR (l.drop i) le most) ⟨⟨R, Φ, _, inferInstance, fun w F c => c, 0, rfl, Nat.zero_le _, rfl, rfl, rfl, rfl⟩, ?_⟩
  rintro le n R1 Φ1 k _ ⟨i, rfl, hi, rfl, rfl, rfl, hs⟩
  refine Br.intro (fun hlt => fun w F cx => ?_) (fun hge => fun w F cx => ⟨?_, cx.left⟩)
  · have hlt : i < l.length := by simpa using hlt
    obtain ⟨b, o, rfl⟩ := hth (by omega)
    rw [soundR_drop l i hlt] at hs
    have hrow := sl_rec (hΦ _ _ cx.phi) hlt
    have hr0 : w.cell? ⟨b, o + i * 2, none⟩ = some (.int .i64 l[i].term) := by have := hrow 0 (by simp); simpa using this
    have hr1 : w.cell? ⟨b, o + i * 2 + 1, none⟩ = some (.string l[i].data) := by have := hrow 1 (by simp); simpa using this
    refine ⟨by omega, ptrK_intro b o rfl ⟨l[i].term, by rw [Int.toNat_natCast]; exact hr0, fun _ => by omega, ptrK_intro b o rfl ⟨l[i].term, fun _ => by rw [Int.toNat_natCast]; exact hr0, fun _ => by omega, ptrK_intro b o rfl ⟨l[i].data, fun _ => by rw [Int.toNat_natCast]; exact hr1,
      Br.intro (fun h => fun w F cx => ⟨?_, cx.left⟩) (fun h => ⟨by omega, ptrK_intro b o rfl fun w F cx => ⟨l[i].term, ?_, by unfold I64; omega, R1, Φ1, l.length - (i + 1), inferInstance, fun w F c => c, ⟨i + 1, rfl, hlt, rfl, rfl, rfl, ?_⟩, by omega⟩⟩)⟩⟩⟩⟩
    · rw [hs, if_pos h]
    · rw [Int.toNat_natCast]
      have := sl_rec (hΦ _ _ cx.phi) hlt 0 (by simp)
      simpa using this
    · rw [hs, if_neg (by rw [h]; simp)]
  · have hge : i = l.length := Nat.le_antisymm hi (by simpa using hge)
    rw [hs, hge, List.drop_length]
    rfl


theorem qRight_in {Φ : PW} [Stable Φ] (id : Nat) (m : MsgR) (q : Option Addr) (qc : Nat) (hsl : ∀ M w, Φ M w → Sl M w q m.recs) (hlen : m.recs.length ≤ 9223372036854775807) (hix : I64 m.index) :
    GivesIn Φ Try.prog F.errataref08_Right #[.int .i64 id, m.v q qc] (.bool (rightP id m)) := by
  refine gives_in (Berrataref08_Right_run id m.kind m.src m.to m.term m.index m.prev m.commit m.yes q m.recs.length qc) fun W R => ?_
  have hfalse : ∀ {w : World} {G : List Own}, ¬ m.Right id → Ctx W w (R ++ G) Φ → Value.bool false = .bool (rightP id m) ∧ Ctx W w R Φ := fun {w G} h cx => by
    have : rightP id m = false := by rw [Bool.eq_false_iff]; exact fun hr => h (right_iff.1 hr)
    rw [this]; exact ⟨rfl, cx.left⟩
  have hso : ∀ {w : World} {G : List Own}, (decide (0 ≤ m.kind) && decide (m.kind < 4) && decide (m.to = (id : Int)) && decide (m.src ≠ (id : Int)) && decide (0 ≤ m.src) && decide (m.src ≤ 2) && decide (1 ≤ m.term) && decide (m.term ≤ 1099511627776)) = true →
      (decide (0 ≤ m.index) && decide (m.index ≤ 4000) && decide (0 ≤ m.prev) && decide (m.prev ≤ m.term) && decide (0 ≤ m.commit) && decide (m.commit ≤ 4000) && decide ((m.recs.length : Int) ≤ 8)) = true → (m.index = 0 → m.prev = 0) → m.index + (m.recs.length : Int) ≤ 4000 →
      ∀ (c : Bool), c = soundR m.recs (max 1 m.prev) m.term → Ctx W w (R ++ G) Φ → Value.bool c = .bool (rightP id m) ∧ Ctx W w R Φ := fun {w G} h1 h2 h3 h4 c hc cx => by
    simp only [Bool.and_eq_true, Bool.and_eq_false_iff, decide_eq_true_eq, decide_eq_false_iff_not] at h1 h2
    refine ⟨?_, cx.left⟩
    rw [hc]
    congr 1
    cases hs : soundR m.recs (max 1 m.prev) m.term with
    | true => exact (right_iff.2 ⟨⟨by omega, by omega⟩, by omega, ⟨by omega, by omega, by omega⟩, ⟨by omega, by omega⟩, ⟨by omega, by omega⟩, ⟨by omega, by omega⟩, h3, ⟨by omega, by omega⟩, by omega, h4, hs⟩).symm
    | false => symm; rw [Bool.eq_false_iff]; intro hr; have := (right_iff.1 hr).sound; rw [hs] at this; cases this
  refine fun _ w G cx => fun w G cx => Br.intro (fun h1 => Br.intro (fun h2 => Br.intro (fun h3 => ?_) (fun h3 => Br.intro (fun h5 => ?_) (fun h5 => fun w G cx => ?_))) (fun h2 => fun w G cx => ?_)) (fun h1 => fun w G cx => ?_)
  · have h6 := h2
    simp only [Bool.and_eq_true, Bool.and_eq_false_iff, decide_eq_true_eq, decide_eq_false_iff_not] at h6
    refine ⟨by unfold I64; omega, Br.intro (fun h4 => fun w G cx => (qsound_in q qc m.recs (max 1 m.prev) m.term hsl hlen).use cx fun w cx => ⟨_, rfl, R, Φ, inferInstance, cx, fun w G cx => hso h1 h2 (by have := of_decide_eq_true h3; omega) (of_decide_eq_true h4) _ rfl cx⟩) (fun h4 => fun w G cx => hfalse (fun hr => ?_) cx)⟩
    have := of_decide_eq_false h4; have := hr.fits; omega
  · have h6 := h2
    simp only [Bool.and_eq_true, Bool.and_eq_false_iff, decide_eq_true_eq, decide_eq_false_iff_not] at h6
    refine ⟨by unfold I64; omega, Br.intro (fun h4 => fun w G cx => (qsound_in q qc m.recs (max 1 m.prev) m.term hsl hlen).use cx fun w cx => ⟨_, rfl, R, Φ, inferInstance, cx, fun w G cx => hso h1 h2 (by have := of_decide_eq_true h5; omega) (of_decide_eq_true h4) _ rfl cx⟩) (fun h4 => fun w G cx => hfalse (fun hr => ?_) cx)⟩
    have := of_decide_eq_false h4; have := hr.fits; omega
  · refine hfalse (fun hr => ?_) cx
    have := of_decide_eq_false h3; have := of_decide_eq_false h5; have := hr.zero; have := hr.index
    omega
  · refine hfalse (fun hr => ?_) cx
    simp only [Bool.and_eq_true, Bool.and_eq_false_iff, decide_eq_true_eq, decide_eq_false_iff_not] at h2
    have := hr.index; have := hr.prev; have := hr.commit; have := hr.len
    omega
  · refine hfalse (fun hr => ?_) cx
    simp only [Bool.and_eq_true, Bool.and_eq_false_iff, decide_eq_true_eq, decide_eq_false_iff_not] at h1
    have := hr.kind; have := hr.to; have := hr.src; have := hr.term
    omega

/-! ### voted -/
set_option maxHeartbeats 1000000 in
theorem qvoted_use {W w : World} {S : List Own} {Φ : PW} [Stable Φ] {L : Loc} {r : Rep} {p : Option Addr} {c : Nat} (cx : Ctx W w (refO L r p c ++ S) Φ) (hr : r.Ok) (m : MsgR) (q : Option Addr) (qc : Nat) (h1 : 0 ≤ m.src) (h2 : m.src ≤ 2) {K : Ending → World → Prop}
    (hK : OutQ W S Φ L.b (votedP r m).1 (votedP r m).2 fun v w => K (.returned v) w) : Calls Try.prog F.errataref08_Replica_voted #[.pointer (some ⟨L.b, 0, none⟩), m.v q qc] w K := by
  have hlen := hr.len
  refine (Berrataref08_Replica_voted_run L.b 0 m.kind m.src m.to m.term m.index m.prev m.commit m.yes q m.recs.length qc (J := fun u w' => K (.returned u) w') cx ?_).mono fun e w' ⟨v, he, hj⟩ => by rw [he]; exact hj
  refine fun _ _ w G cx => ⟨r.role, cx.get 0 rfl rfl, r.term, fun _ => cx.get 0 rfl rfl, Br.intro (fun h => fun w G cx => ?_) (fun h => fun w G cx => ?_)⟩
  · rw [voted_no h] at hK
    exact hK.zero cx.left
  refine ⟨some ⟨L.v, 0, none⟩, 3, 3, cx.get 0 rfl rfl, by omega, ptrK_intro L.v 0 rfl fun w G cx => ⟨cx.can 2 rfl (by simp; omega), fun w' hw' => ?_⟩⟩
  rw [Nat.zero_add] at hw'
  have cx1 : Ctx W w' (refO L (voteR r m) p c ++ S ++ G) Φ := gr (putv_ref (gl cx) (by omega : m.src.toNat < 3) hw')
  refine ⟨_, Φ, inferInstance, cx1, ?_⟩
  refine exI_mk (fun n iI R' Φ' k => ∃ i : Nat, iI = i ∧ i ≤ 3 ∧ n = countTo (voteR r m).votes i ∧ R' = refO L (voteR r m) p c ++ S ∧ Φ' = Φ ∧ k = 3 - i) ⟨⟨_, Φ, _, inferInstance, fun w G cx => cx, 0, rfl, Nat.zero_le _, rfl, rfl, rfl, rfl⟩, ?_⟩
  rintro n iI R1 Φ1 k _ ⟨i, rfl, hi, rfl, rfl, rfl, rfl⟩
  have hct : countTo (voteR r m).votes i ≤ 3 := by
    have : ∀ j, countTo (voteR r m).votes j ≤ j := by
      intro j
      induction j with
      | zero => exact Nat.le_refl _
      | succ j ih => unfold countTo; have : b2n ((voteR r m).votes j) ≤ 1 := by unfold b2n; split <;> omega
                     omega
    have := this i; omega
  refine Br.intro (fun hlt => fun w G cx => ?_) (fun hge => ?_)
  · have hlt : i < 3 := by have := of_decide_eq_true hlt; omega
    refine ⟨some ⟨L.v, 0, none⟩, 3, 3, cx.get 0 rfl rfl, by omega, ptrK_intro L.v 0 rfl fun w G cx => ⟨(voteR r m).votes i, ?_, Br.intro (fun hv => ⟨by unfold I64; omega, by unfold I64; omega, _, Φ1, 3 - (i + 1), inferInstance, fun w G cx => cx, ⟨i + 1, rfl, by omega, ?_, rfl, rfl, rfl⟩, by omega⟩) (fun hv => ⟨by unfold I64; omega, _, Φ1, 3 - (i + 1), inferInstance, fun w G cx => cx, ⟨i + 1, rfl, by omega, ?_, rfl, rfl, rfl⟩, by omega⟩)⟩⟩
    · rw [Nat.zero_add, Int.toNat_natCast]
      exact cx.get 2 rfl (vc_at hlt)
    · rw [countTo_succ, hv]; simp [b2n]
    · rw [countTo_succ, hv]; simp [b2n]
  · have hge : i = 3 := by have := of_decide_eq_false hge; omega
    subst hge
    have hc3 : countTo (voteR r m).votes 3 = countV (voteR r m).votes := by simp [countTo, countV]
    rw [hc3]
    refine Br.intro (fun h2' => fun w G cx => ?_) (fun h2' => fun w G cx => ⟨cx.can 0 rfl (by simp), fun w' hw' => ?_⟩)
    · have h2' := of_decide_eq_true h2'
      rw [voted_few h (by omega)] at hK
      exact hK.zero cx.left
    have h2' := of_decide_eq_false h2'
    rw [voted_lead h (by omega)] at hK
    have cx1 : Ctx W w' (refO L { voteR r m with role := 2 } p c ++ S ++ G) Φ1 := gr (put_ref (gl cx) hw' { voteR r m with role := 2 } rfl rfl rfl rfl rfl)
    refine ⟨_, Φ1, inferInstance, cx1, ?_⟩
    refine exI_mk (fun iI R' Φ' k => ∃ (i : Nat) (nx mt : Nat → Nat), iI = i ∧ i ≤ 3 ∧ (∀ j, j < i → nx j = r.log.length + 1 ∧ mt j = 0) ∧ R' = refO L { voteR r m with role := 2, next := nx, mat := mt } p c ++ S ∧ Φ' = Φ1 ∧ k = 3 - i) ⟨⟨_, Φ1, _, inferInstance, fun w G cx => cx, 0, r.next, r.mat, rfl, Nat.zero_le _, fun j h => by omega, rfl, rfl, rfl⟩, ?_⟩
    rintro iI R2 Φ2 k _ ⟨i, nx, mt, rfl, hi, hnm, rfl, rfl, rfl⟩
    refine Br.intro (fun hlt => fun w G cx => ?_) (fun hge => fun w G cx => ?_)
    · have hlt : i < 3 := by have := of_decide_eq_true hlt; omega
      refine ⟨some ⟨L.n, 0, none⟩, 3, 3, cx.get 0 rfl rfl, fun w G cx => ⟨p, r.log.length, c, cx.get 0 rfl rfl, by unfold Vc.I64; omega, by omega, ptrK_intro L.n 0 rfl fun w G cx => ⟨cx.can 3 rfl (by simp; omega), fun w' hw' => ?_⟩⟩⟩
      rw [Nat.zero_add, Int.toNat_natCast, show ((r.log.length : Int) + 1) = ((r.log.length + 1 : Nat) : Int) by omega] at hw'
      have cx1 : Ctx W w' (refO L { voteR r m with role := 2, next := put nx i (r.log.length + 1), mat := mt } p c ++ S ++ G) Φ2 := gr (putn_ref (gl cx) hlt hw')
      refine ⟨_, Φ2, inferInstance, cx1, fun w G cx => ⟨some ⟨L.m, 0, none⟩, 3, 3, cx.get 0 rfl rfl, by omega, ptrK_intro L.m 0 rfl fun w G cx => ⟨cx.can 4 rfl (by simp; omega), fun w' hw' => ?_⟩⟩⟩
      rw [Nat.zero_add, Int.toNat_natCast] at hw'
      have cx1 : Ctx W w' (refO L { voteR r m with role := 2, next := put nx i (r.log.length + 1), mat := put mt i 0 } p c ++ S ++ G) Φ2 := gr (putm_ref (x := 0) (gl cx) hlt hw')
      refine ⟨_, Φ2, inferInstance, cx1, by unfold Vc.I64; omega, _, Φ2, 3 - (i + 1), inferInstance, fun w G cx => cx, ⟨i + 1, put nx i (r.log.length + 1), put mt i 0, rfl, by omega, fun j hj => ?_, rfl, rfl, rfl⟩, by omega⟩
      unfold put
      by_cases hji : j = i
      · rw [if_pos hji, if_pos hji]; exact ⟨rfl, rfl⟩
      · rw [if_neg hji, if_neg hji]; exact hnm j (by omega)
    · have hge : i = 3 := by have := of_decide_eq_false hge; omega
      subst hge
      have hn : ({ voteR r m with role := 2, next := nx, mat := mt } : Rep).nc = (leadR r m).nc := by
        simp only [Rep.nc, leadR, (hnm 0 (by omega)).1, (hnm 1 (by omega)).1, (hnm 2 (by omega)).1]
      have hm : ({ voteR r m with role := 2, next := nx, mat := mt } : Rep).mc = (leadR r m).mc := by
        simp only [Rep.mc, leadR, (hnm 0 (by omega)).2, (hnm 1 (by omega)).2, (hnm 2 (by omega)).2]
      have cx1 : Ctx W w (refO L (leadR r m) p c ++ (S ++ G)) Φ2 := by
        have := gl cx
        unfold refO at this
        rw [hn, hm] at this
        exact this
      have hlo := lead_ok hr m
      exact qall_use cx1 hlo (fun i hi => hlo.fit rfl hi) fun q cap w h1 h2 cx => ⟨q, _, cap, rfl, refO L (leadR r m) p c ++ S, fun M w => Φ2 M w ∧ Sl M w q (allOf (leadR r m)), inferInstance, gr cx, fun w G cx => hK.sent h1 h2 (Ctx.left (F := G) (Φ := fun M w => Φ2 M w ∧ Sl M w q (allOf (leadR r m))) cx)⟩

end Go.Proofs.Ytifgijoeckoojaa
end

/-
  The reference's replica: appended.
-/
section
set_option linter.unusedVariables false
set_option linter.unusedSimpArgs false
namespace Go.Proofs.Ytifgijoeckoojaa
open Go.Vc


/-- what is committed after a look at k entries behind the commit number -/
def cto (r : Rep) : Nat → Nat
  | 0 => r.commit
  | k + 1 => if termAt r.log (r.commit + k + 1) = r.term ∧ r.commit + k + 1 ≤ max (r.mat ((r.id + 1) % 3)) (r.mat ((r.id + 2) % 3)) then r.commit + k + 1 else cto r k

theorem most_two {r : Rep} (h : r.id ≤ 2) : mostOf r = max (r.mat ((r.id + 1) % 3)) (r.mat ((r.id + 2) % 3)) := by
  have : r.id = 0 ∨ r.id = 1 ∨ r.id = 2 := by omega
  unfold mostOf othersOf
  rcases this with h | h | h <;> rw [h] <;> simp <;> omega

theorem cto_stay {r : Rep} (M : Nat) (hM : max (r.mat ((r.id + 1) % 3)) (r.mat ((r.id + 2) % 3)) = M) (h : ∀ n, r.commit < n → n ≤ M → termAt r.log n ≠ r.term) : ∀ k, cto r k = r.commit
  | 0 => rfl
  | k + 1 => by
    unfold cto
    rw [if_neg (fun hh => h _ (by omega) (by rw [← hM]; exact hh.2) hh.1)]
    exact cto_stay M hM h k

theorem cto_most {r : Rep} (M : Nat) (hM : max (r.mat ((r.id + 1) % 3)) (r.mat ((r.id + 2) % 3)) = M) (h : r.commit < M) (ht : termAt r.log M = r.term) : ∀ k, M ≤ r.commit + k → cto r k = M
  | 0, hk => by omega
  | k + 1, hk => by
    unfold cto
    by_cases he : r.commit + k + 1 = M
    · rw [if_pos ⟨by rw [he]; exact ht, by omega⟩, he]
    · rw [if_neg (fun hh => by rw [hM] at hh; omega)]
      exact cto_most M hM h ht k (by omega)

theorem cto_adv {r : Rep} (h : r.Ok) (hm : ∀ i, r.mat i ≤ r.log.length) : cto r (r.log.length - r.commit) = (advanceP r).commit := by
  have hmo := most_two h.id
  have hle : mostOf r ≤ r.log.length := by rw [hmo]; have := hm ((r.id + 1) % 3); have := hm ((r.id + 2) % 3); omega
  have hc := h.commit
  unfold advanceP
  by_cases h1 : r.commit < mostOf r
  · by_cases h2 : termAt r.log (mostOf r) = r.term
    · rw [if_pos (by rw [decide_eq_true h1, decide_eq_true h2]; rfl)]
      exact cto_most (mostOf r) hmo.symm h1 h2 _ (by omega)
    · rw [if_neg (by rw [decide_eq_false h2, Bool.and_false]; simp)]
      refine cto_stay (mostOf r) hmo.symm (fun n hn hnm e => h2 ?_) _
      obtain ⟨a, rfl⟩ : ∃ a, n = a + 1 := ⟨n - 1, by omega⟩
      obtain ⟨b, hb⟩ : ∃ b, mostOf r = b + 1 := ⟨mostOf r - 1, by omega⟩
      rw [hb] at hle hnm ⊢
      rw [termAt_succ (by omega)] at e
      have h3 := h.log.asc a b (by omega) (by omega) (by omega)
      have h4 := (h.termAt (b + 1)).2
      rw [termAt_succ (by omega)] at h4 ⊢
      omega
  · rw [if_neg (by rw [decide_eq_false h1]; simp)]
    exact cto_stay (mostOf r) hmo.symm (fun n hn hnm => by omega) _

theorem tmod_id {r : Rep} (h : r.id ≤ 2) (k : Nat) (hk : k = 1 ∨ k = 2) : ((r.id : Int) + (k : Int)).tmod 3 = (((r.id + k) % 3 : Nat) : Int) := by
  have : r.id = 0 ∨ r.id = 1 ∨ r.id = 2 := by omega
  rcases this with h | h | h <;> rcases hk with rfl | rfl <;> rw [h] <;> rfl

def ctoR (r : Rep) (k : Nat) : Rep := { r with commit := cto r k }
theorem cto_rep {r : Rep} (h : r.Ok) (hm : ∀ i, r.mat i ≤ r.log.length) : ctoR r (r.log.length - r.commit) = advanceP r := by
  unfold ctoR
  rw [cto_adv h hm]
  unfold advanceP
  split <;> rfl

theorem OutQ.ent {W w : World} {S G : List Own} {Φ : PW} [Stable Φ] {L : Loc} {r' : Rep} {K : Value → World → Prop} {p : Option Addr} {c k : Nat} {m : MsgR} {q : Option Addr} {cap : Nat} (h : OutQ W S Φ L.b r' (outS [m]) K) (hm : m.Ok) (h1 : m.recs.length ≤ cap) (h2 : cap ≤ maxLen)
    (cx : Ctx W w (.blk k (m.cells q cap) 37 :: (refO L r' p c ++ S) ++ G) (fun M w => Φ M w ∧ Sl M w q m.recs)) : K (outV (outS [m]) none 0 (some ⟨k, 0, none⟩) 1) w := by
  have cx0 : Ctx W w (.blk k (m.cells q cap) 37 :: ((refO L r' p c ++ S) ++ G)) (fun M w => Φ M w ∧ Sl M w q m.recs) := cx
  have hst0 : Stable (fun M w => Φ M w ∧ Sl M w q m.recs) := inferInstance
  obtain ⟨cx1, hs⟩ := cx0.freezeBlk (Elems.one (rep_msg (x := m) hm h1 h2 cx0.phi.2))
  have hst : Stable (fun M w => Φ M w ∧ Sl M w (some ⟨k, 0, none⟩) [m]) := inferInstance
  exact h.sent (by simp) (by simp [maxLen]) (Ctx.left (F := G) (Φ := fun M w => Φ M w ∧ Sl M w (some ⟨k, 0, none⟩) [m]) ((cx1.add hs).weak fun M w h => ⟨h.1.1, h.2⟩))

set_option maxHeartbeats 2000000 in
theorem qappended_use {W w : World} {S : List Own} {Φ : PW} [Stable Φ] {L : Loc} {r : Rep} {p : Option Addr} {c : Nat} (cx : Ctx W w (refO L r p c ++ S) Φ) (hr : r.Ok) (m : MsgR) (q : Option Addr) (qc : Nat) (h1 : 0 ≤ m.src) (h2 : m.src ≤ 2) (h3 : 0 ≤ m.index) (h4 : m.index ≤ 4000) {K : Ending → World → Prop}
    (hK : OutQ W S Φ L.b (appendedP r m).1 (appendedP r m).2 fun v w => K (.returned v) w) : Calls Try.prog F.errataref08_Replica_appended #[.pointer (some ⟨L.b, 0, none⟩), m.v q qc] w K := by
  have hlen := hr.len
  have hsr : m.src = (m.src.toNat : Nat) := by omega
  have hs3 : m.src.toNat < 3 := by omega
  refine (Berrataref08_Replica_appended_run L.b 0 m.kind m.src m.to m.term m.index m.prev m.commit m.yes q m.recs.length qc (J := fun u w' => K (.returned u) w') cx ?_).mono fun e w' ⟨v, he, hj⟩ => by rw [he]; exact hj
  refine fun _ _ w G cx => ⟨r.role, cx.get 0 rfl rfl, r.term, fun _ => cx.get 0 rfl rfl, p, r.log.length, c, fun _ => cx.get 0 rfl rfl, Br.intro (fun h => fun w G cx => ?_) (fun h => Br.intro (fun hy => ?_) (fun hy => ?_))⟩
  · rw [appended_no h] at hK
    exact hK.zero cx.left
  · have hy : m.yes = false := by simpa using hy
    rw [appended_back h hy] at hK
    have hrole : r.role = 2 := by
      simp only [Bool.or_eq_false_iff, decide_eq_false_iff_not] at h
      exact Decidable.not_not.1 h.1.1
    have hn := hr.next hrole m.src.toNat
    have hbo := back_ok hr hrole m
    refine ⟨by unfold I64; omega, fun w G cx => ⟨some ⟨L.n, 0, none⟩, 3, 3, cx.get 0 rfl rfl, fun w G cx => ⟨some ⟨L.m, 0, none⟩, 3, 3, cx.get 0 rfl rfl, fun w G cx => ⟨some ⟨L.n, 0, none⟩, 3, 3, cx.get 0 rfl rfl, by omega, ptrK_intro L.m 0 rfl ⟨by omega, ptrK_intro L.n 0 rfl fun w G cx => ⟨(r.mat m.src.toNat : Nat), by rw [Nat.zero_add]; exact cx.get 4 rfl (mc_at hs3), fun w G cx => ⟨(r.next m.src.toNat : Nat), by rw [Nat.zero_add]; exact cx.get 3 rfl (nc_at hs3), by unfold I64; omega, by unfold I64; omega, by omega, ptrK_intro L.n 0 rfl fun w G cx => ⟨cx.can 3 rfl (by simp; omega), fun w' hw' => ?_⟩⟩⟩⟩⟩⟩⟩⟩
    have hval : max ((r.mat m.src.toNat : Int) + 1) (min ((r.next m.src.toNat : Int) - 1) (m.index + 1)) = ((max (r.mat m.src.toNat + 1) (min (r.next m.src.toNat - 1) (m.index.toNat + 1)) : Nat) : Int) := by omega
    rw [Nat.zero_add, hval] at hw'
    have cx1 : Ctx W w' (refO L (backR r m) p c ++ S ++ G) Φ := gr (putn_ref (gl cx) hs3 hw')
    refine ⟨_, Φ, inferInstance, cx1, fun w G cx => ?_⟩
    refine qentries_use (gl cx) hbo.recs m.src.toNat hsr (hbo.fit hrole hs3) fun q2 cap2 w g1 g2 cx => ?_
    have hst : Stable (fun M w => Φ M w ∧ Sl M w q2 (entriesOf (backR r m) m.src.toNat).recs) := inferInstance
    exact ⟨_, _, _, _, _, _, _, _, q2, _, cap2, rfl, refO L (backR r m) p c ++ S, fun M w => Φ M w ∧ Sl M w q2 (entriesOf (backR r m) m.src.toNat).recs, hst, gr cx, fun k w G cx => hK.ent (entries_ok hbo (hbo.fit hrole hs3)) g1 g2 cx⟩
  · have hy : m.yes = true := by simpa using hy
    rw [appended_fwd h hy] at hK
    simp only [Bool.or_eq_false_iff, decide_eq_false_iff_not, hy, Bool.true_and] at h
    have hrole : r.role = 2 := Decidable.not_not.1 h.1.1
    have hix : m.index.toNat ≤ r.log.length := by have := h.2; omega
    have hn := hr.next hrole m.src.toNat
    have hfo := fwd_ok hr hrole m hix
    obtain ⟨e1, e2, e3, e4, e5, e6, e7⟩ := adv_eq (fwdR r m)
    have hao := adv_ok hfo hrole
    have hcto := cto_rep hfo (fun i => (hfo.next hrole i).2.2)
    have hfl : (fwdR r m).log = r.log := rfl
    have hfc : (fwdR r m).commit = r.commit := rfl
    have hcm := hr.commit
    refine fun w G cx => ⟨some ⟨L.m, 0, none⟩, 3, 3, cx.get 0 rfl rfl, fun w G cx => ⟨some ⟨L.m, 0, none⟩, 3, 3, cx.get 0 rfl rfl, by omega, ptrK_intro L.m 0 rfl fun w G cx => ⟨(r.mat m.src.toNat : Nat), by rw [Nat.zero_add]; exact cx.get 4 rfl (mc_at hs3), by omega, ptrK_intro L.m 0 rfl fun w G cx => ⟨cx.can 4 rfl (by simp; omega), fun w' hw' => ?_⟩⟩⟩⟩
    have hval : max (r.mat m.src.toNat : Int) m.index = ((max (r.mat m.src.toNat) m.index.toNat : Nat) : Int) := by omega
    rw [Nat.zero_add, hval] at hw'
    have cx1 : Ctx W w' (refO L { r with mat := put r.mat m.src.toNat (max (r.mat m.src.toNat) m.index.toNat) } p c ++ S ++ G) Φ := gr (putm_ref (gl cx) hs3 hw')
    have hget : ({ r with mat := put r.mat m.src.toNat (max (r.mat m.src.toNat) m.index.toNat) } : Rep).mat m.src.toNat = max (r.mat m.src.toNat) m.index.toNat := by simp [put]
    refine ⟨_, Φ, inferInstance, cx1, fun w G cx => ⟨some ⟨L.n, 0, none⟩, 3, 3, cx.get 0 rfl rfl, fun w G cx => ⟨some ⟨L.m, 0, none⟩, 3, 3, cx.get 0 rfl rfl, by omega, ptrK_intro L.m 0 rfl fun w G cx => ⟨((max (r.mat m.src.toNat) m.index.toNat : Nat) : Int), ?_, by unfold I64; omega, by omega, ptrK_intro L.n 0 rfl fun w G cx => ⟨cx.can 3 rfl (by simp; omega), fun w' hw' => ?_⟩⟩⟩⟩⟩
    · rw [Nat.zero_add]
      have := cx.get 4 rfl (mc_at (r := { r with mat := put r.mat m.src.toNat (max (r.mat m.src.toNat) m.index.toNat) }) hs3)
      rw [hget] at this
      exact this
    rw [Nat.zero_add, show (((max (r.mat m.src.toNat) m.index.toNat : Nat) : Int) + 1) = ((max (r.mat m.src.toNat) m.index.toNat + 1 : Nat) : Int) by omega] at hw'
    have cx1 : Ctx W w' (refO L (fwdR r m) p c ++ S ++ G) Φ := gr (putn_ref (gl cx) hs3 hw')
    generalize hF : fwdR r m = f at *
    have hflen := hfo.len
    have hfcm := hfo.commit
    refine ⟨_, Φ, inferInstance, cx1, fun w G cx => ⟨f.commit, cx.get 0 rfl rfl, by unfold I64; omega, ?_⟩⟩
    refine exI_mk (fun n R' Φ' kk => ∃ k : Nat, n = (f.commit : Int) + k + 1 ∧ f.commit + k ≤ f.log.length ∧ R' = refO L (ctoR f k) p c ++ S ∧ Φ' = Φ ∧ kk = f.log.length - (f.commit + k)) ⟨⟨_, Φ, _, inferInstance, fun w G cx => cx, 0, by omega, by omega, rfl, rfl, rfl⟩, ?_⟩
    rintro n R1 Φ1 kk _ ⟨k, rfl, hk, rfl, rfl, rfl⟩
    refine fun w G cx => ⟨p, f.log.length, c, cx.get 0 rfl rfl, Br.intro (fun hle => fun w G cx => ?_) (fun hgt => fun w G cx => ?_)⟩
    · have hle := of_decide_eq_true hle
      have ha := tmod_id hfo.id 1 (.inl rfl)
      have hb := tmod_id hfo.id 2 (.inr rfl)
      have ha3 : (f.id + 1) % 3 < 3 := Nat.mod_lt _ (by omega)
      have hb3 : (f.id + 2) % 3 < 3 := Nat.mod_lt _ (by omega)
      have hid := hfo.id
      have hct : ctoR f (k + 1) = if termAt f.log (f.commit + k + 1) = f.term ∧ f.commit + k + 1 ≤ max (f.mat ((f.id + 1) % 3)) (f.mat ((f.id + 2) % 3)) then { f with commit := f.commit + k + 1 } else ctoR f k := by
        unfold ctoR
        rw [cto]
        split <;> rfl
      refine ⟨termAt f.log (f.commit + k + 1), fun w' hw => qterm_dr (hereQ_of (r := ctoR f k) (gl cx)) (by omega) (by omega) hw, f.term, cx.get 0 rfl rfl, some ⟨L.m, 0, none⟩, 3, 3, fun _ => cx.get 0 rfl rfl, f.id, fun _ => cx.get 0 rfl rfl, fun _ => by unfold I64; omega, fun _ => by omega, fun _ => by
        rw [show ((f.id : Int) + 1) = ((f.id : Int) + ((1 : Nat) : Int)) from rfl, ha]; omega, ptrK_intro L.m 0 rfl ⟨(f.mat ((f.id + 1) % 3) : Nat), fun _ => ?_, some ⟨L.m, 0, none⟩, 3, 3, fun _ => cx.get 0 rfl rfl, f.id, fun _ => cx.get 0 rfl rfl, fun _ => by unfold I64; omega, fun _ => by omega, fun _ => by
        rw [show ((f.id : Int) + 2) = ((f.id : Int) + ((2 : Nat) : Int)) from rfl, hb]; omega, ptrK_intro L.m 0 rfl ⟨(f.mat ((f.id + 2) % 3) : Nat), fun _ => ?_, Br.intro (fun hc => fun w G cx => ⟨cx.can 0 rfl (by simp), fun w' hw' => ?_⟩) (fun hc => ?_)⟩⟩⟩
      · rw [show ((f.id : Int) + 1) = ((f.id : Int) + ((1 : Nat) : Int)) from rfl, ha, Int.toNat_natCast, Nat.zero_add]
        exact cx.get 4 rfl (mc_at (r := f) ha3)
      · rw [show ((f.id : Int) + 2) = ((f.id : Int) + ((2 : Nat) : Int)) from rfl, hb, Int.toNat_natCast, Nat.zero_add]
        exact cx.get 4 rfl (mc_at (r := f) hb3)
      · simp only [Bool.and_eq_true, decide_eq_true_eq] at hc
        rw [if_pos ⟨hc.1, by have := hc.2; omega⟩] at hct
        rw [show (f.commit : Int) + k + 1 = ((f.commit + k + 1 : Nat) : Int) by omega] at hw'
        have cx1 : Ctx W w' (refO L (ctoR f (k + 1)) p c ++ S ++ G) Φ1 := by rw [hct]; exact gr (put_ref (gl cx) hw' _ rfl rfl rfl rfl rfl)
        exact ⟨_, Φ1, inferInstance, cx1, by unfold I64; omega, _, Φ1, f.log.length - (f.commit + (k + 1)), inferInstance, fun w G cx => cx, ⟨k + 1, by omega, by omega, rfl, rfl, rfl⟩, by omega⟩
      · simp only [Bool.and_eq_false_iff, decide_eq_false_iff_not] at hc
        rw [if_neg (fun hh => by rcases hc with hc | hc
                                 · exact hc hh.1
                                 · have := hh.2; omega)] at hct
        exact ⟨by unfold I64; omega, _, Φ1, f.log.length - (f.commit + (k + 1)), inferInstance, fun w G cx => cx, ⟨k + 1, by omega, by omega, by rw [hct], rfl, rfl⟩, by omega⟩
    · have hgt := of_decide_eq_false hgt
      have hke : k = f.log.length - f.commit := by omega
      rw [hke, hcto] at cx
      rw [hke, hcto]
      have hnx : f.next m.src.toNat = max (r.mat m.src.toNat) m.index.toNat + 1 := by rw [← hF]; simp [fwdR, put]
      refine ⟨some ⟨L.n, 0, none⟩, 3, 3, cx.get 0 rfl rfl, by omega, ptrK_intro L.n 0 rfl ⟨((max (r.mat m.src.toNat) m.index.toNat + 1 : Nat) : Int), ?_, p, (advanceP f).log.length, c, cx.get 0 rfl rfl, Br.intro (fun hle => fun w G cx => ?_) (fun hle => fun w G cx => ?_)⟩⟩
      · rw [Nat.zero_add]
        have := cx.get 3 rfl (nc_at (r := advanceP f) hs3)
        rw [e3, hnx] at this
        exact this
      · have hle := of_decide_eq_true hle
        rw [e2, hfl] at hle
        rw [if_pos (by omega)] at hK
        have hro : (advanceP f).role = 2 := by rw [e1, ← hF]; exact hrole
        refine qentries_use (gl cx) hao.recs m.src.toNat hsr (hao.fit hro hs3) fun q2 cap2 w g1 g2 cx => ?_
        have hst : Stable (fun M w => Φ1 M w ∧ Sl M w q2 (entriesOf (advanceP f) m.src.toNat).recs) := inferInstance
        exact ⟨_, _, _, _, _, _, _, _, q2, _, cap2, rfl, refO L (advanceP f) p c ++ S, fun M w => Φ1 M w ∧ Sl M w q2 (entriesOf (advanceP f) m.src.toNat).recs, hst, gr cx, fun k w G cx => hK.ent (entries_ok hao (hao.fit hro hs3)) g1 g2 cx⟩
      · have hle := of_decide_eq_false hle
        rw [e2, hfl] at hle
        rw [if_neg (by omega)] at hK
        exact hK.zero cx.left

end Go.Proofs.Ytifgijoeckoojaa
end

/-
  The reference's replica: append.
-/
section
set_option linter.unusedVariables false
set_option linter.unusedSimpArgs false
namespace Go.Proofs.Ytifgijoeckoojaa
open Go.Vc


set_option maxHeartbeats 4000000 in
theorem qappend_use {W w : World} {S : List Own} {Φ : PW} [Stable Φ] {L : Loc} {r : Rep} {p : Option Addr} {c : Nat} (cx : Ctx W w (refO L r p c ++ S) Φ) (hr : r.Ok) (m : MsgR) (hm : m.Right r.id) (q : Option Addr) (qc : Nat) (hsl : ∀ M w, Φ M w → Sl M w q m.recs) (hqc : m.recs.length ≤ qc) {K : Ending → World → Prop}
    (hK : OutQ W S Φ L.b (appendP r m).1 (appendP r m).2 fun v w => K (.returned v) w) : Calls Try.prog F.errataref08_Replica_append #[.pointer (some ⟨L.b, 0, none⟩), m.v q qc] w K := by
  have hlen := hr.len
  have hcm := hr.commit
  obtain ⟨hs1, hs2, hs3⟩ := hm.src
  obtain ⟨hi1, hi2⟩ := hm.index
  obtain ⟨hc1, hc2⟩ := hm.commit
  have hl8 := hm.len
  have hfit := hm.fits
  have ht0 := hr.term0
  have htM := hr.termM
  have hix : m.index = (m.index.toNat : Nat) := by omega
  have hth : There q m.recs.length := (hsl _ _ cx.phi).there
  have hrok : ∀ x ∈ m.recs, x.Ok := sl_recOk (hsl _ _ cx.phi)
  refine (Berrataref08_Replica_append_run L.b 0 m.kind m.src m.to m.term m.index m.prev m.commit m.yes q m.recs.length qc (J := fun u w' => K (.returned u) w') cx ?_).mono fun e w' ⟨v, he, hj⟩ => by rw [he]; exact hj
  have hmok0 := msg_ok0 hr (kind := 3) (to := m.src) (index := 0) (prev := 0) (yes := false) (by omega) (by omega) (by omega) (by omega)
  refine fun _ _ w G cx => qmessage_use (gl cx) 3 m.src fun w cx => ⟨_, _, _, _, _, _, _, _, none, _, 0, rfl, refO L r p c ++ S, Φ, inferInstance, gr cx, fun _ w G cx => ⟨r.term, cx.get 0 rfl rfl, Br.intro (fun h => fun k w G cx => ?_) (fun h => fun w G cx => ⟨r.role, cx.get 0 rfl rfl, Br.intro (fun h2 => fun w G cx => ?_) (fun h2 => fun w G cx => ⟨cx.can 0 rfl (by simp), fun w' hw' => ?_⟩)⟩)⟩⟩
  · rw [append_old (of_decide_eq_true h)] at hK
    exact hK.one hmok0 rfl cx
  · rw [append_lead (of_decide_eq_false h) (of_decide_eq_true h2)] at hK
    exact hK.zero cx.left
  have h := of_decide_eq_false h
  have h2 := of_decide_eq_false h2
  have cx1 : Ctx W w' (refO L (folR r) p c ++ S ++ G) Φ := gr (put_ref (gl cx) hw' (folR r) rfl rfl rfl rfl rfl)
  refine ⟨_, Φ, inferInstance, cx1, fun w G cx => ⟨p, r.log.length, c, cx.get 0 rfl rfl, termAt r.log m.index.toNat, fun hle w' hw => qterm_dr (hereQ_of (r := folR r) (gl cx)) hix (by omega) hw, Br.intro (fun h3 => ?_) (fun h3 => ?_)⟩⟩
  · rw [append_gap h h2 h3] at hK
    refine ⟨by unfold I64; omega, fun w G cx => ⟨p, r.log.length, c, cx.get 0 rfl rfl, fun k w G cx => ?_⟩⟩
    have hno : (nackOf r m).Ok := msg_ok0 hr (by omega) (by omega) (by omega) (by omega)
    exact hK.one hno rfl cx
  have hle : m.index.toNat ≤ r.log.length := by
    simp only [Bool.or_eq_false_iff, decide_eq_false_iff_not] at h3
    omega
  have hao : (ackOf r m).Ok := msg_ok0 hr (by omega) (by omega) (by omega) (by omega)
  refine fun _ => exI_mk (fun jI R' Φ' kk => ∃ j : Nat, jI = j ∧ j ≤ m.recs.length ∧ R' = refO L (folR r) p c ++ S ∧ Φ' = Φ ∧ kk = m.recs.length - j ∧ appK r m = j + agree (r.log.drop (m.index.toNat + j)) (m.recs.drop j))
    ⟨⟨_, Φ, _, inferInstance, fun w G cx => cx, 0, rfl, Nat.zero_le _, rfl, rfl, rfl, by simp [appK]⟩, ?_⟩
  rintro jI R1 Φ1 kk _ ⟨j, rfl, hj, rfl, rfl, rfl, hag⟩
  have hcv : ∀ r2 : Rep, r2.commit = r.commit → max (r2.commit : Int) (min m.commit (m.index + (m.recs.length : Int))) = ((appC r m : Nat) : Int) := fun r2 e => by rw [e]; unfold appC; omega
  -- what is left when the entries are in place
  by_cases hlt : j < m.recs.length
  · obtain ⟨qb, qo, rfl⟩ := hth (by omega)
    refine fun w G cx => ⟨fun _ => by unfold I64; omega, fun _ => by unfold I64; omega, p, r.log.length, c, fun _ => cx.get 0 rfl rfl, fun _ => by unfold I64; omega, fun _ => by unfold I64; omega, termAt r.log (m.index.toNat + j + 1), fun _ w' hw => qterm_dr (hereQ_of (r := folR r) (gl cx)) (by omega) (by omega) hw, fun _ => by unfold I64; omega, fun _ => by omega, ptrK_intro qb qo rfl ⟨m.recs[j].term, fun _ => ?_, Br.intro (fun heq => ?_) (fun hne => Br.intro (fun _ => ?_) (fun hno => by have := of_decide_eq_false hno; omega))⟩⟩
    · have := sl_rec (hsl _ _ cx.phi) hlt 0 (by simp)
      rw [show (min (j : Int) ((m.recs.length : Int) - 1)).toNat = j by omega]
      simpa using this
    · refine ⟨by unfold I64; omega, _, Φ1, m.recs.length - (j + 1), inferInstance, fun w G cx => cx, ⟨j + 1, by omega, hlt, rfl, rfl, rfl, ?_⟩, by omega⟩
      rw [agree_step hlt, if_pos] at hag
      · rw [show m.index.toNat + (j + 1) = m.index.toNat + j + 1 by omega]; omega
      · simp only [Bool.and_eq_true, decide_eq_true_eq] at heq ⊢
        exact ⟨by omega, heq.2⟩
    · rw [agree_step hlt, if_neg] at hag
      case hnc =>
        intro h'
        simp only [Bool.and_eq_true, decide_eq_true_eq, Bool.and_eq_false_iff, decide_eq_false_iff_not] at hne h'
        rcases hne with (hne | hne) | hne
        · omega
        · omega
        · exact hne h'.2
      have hag : appK r m = j := by omega
      refine ⟨by unfold I64; omega, by unfold I64; omega, fun w G cx => ⟨r.commit, cx.get 0 rfl rfl, Br.intro (fun h5 => fun w G cx => ?_) (fun h5 => ?_)⟩⟩
      · rw [append_done h h2 h3 (by omega) (by have := of_decide_eq_true h5; omega)] at hK
        exact hK.zero cx.left
      have h5 := of_decide_eq_false h5
      rw [append_new h h2 h3 (by omega) (by omega), hag] at hK
      have htl : (r.log.take (m.index.toNat + j)).length = m.index.toNat + j := by
        rw [List.length_take]
        have := agree_lt (r.log.drop m.index.toNat) m.recs
        rw [List.length_drop] at this
        unfold appK at hag
        omega
      have hjl : m.index.toNat + j ≤ r.log.length := by rw [List.length_take] at htl; omega
      refine fun k1 => ⟨by omega, fun w G cx => ?_⟩
      rw [Int.toNat_natCast, show m.recs.length - j = (m.recs.drop j).length by rw [List.length_drop]]
      have cx0 : Ctx W w (.blk k1 [] 55 :: (refO L (folR r) p c ++ (S ++ G))) Φ1 := cx.re (by simp)
      obtain ⟨rp, rcap, w', cs, hrun, cx'⟩ := Ctx.cloned (P := Try.prog) (α := RecD) (ts := 35) (ty := 35) (kb := #[false, false]) (bytes := 24) (c2 := qc - j) cx0 (by kernel_rfl) rec_one (fun M w h => addr_sub (hsl M w h) j hqc) (by rw [List.length_drop]; omega) (by omega)
      obtain ⟨rfl, _⟩ := elems_recs cx'.phi.2
      obtain ⟨_, hrc1, hrc2⟩ := cx'.bufLen 0 rfl
      obtain ⟨cx2, hs, _⟩ := Ctx.freeze (α := RecD) cx'.fst (recs_elems fun x hx => hrok x (List.mem_of_mem_drop hx))
      have hst : Stable (fun M w => Φ1 M w ∧ Sl M w rp (m.recs.drop j)) := inferInstance
      refine ⟨rp, _, rcap, w', hrun, refO L (folR r) p c ++ S, fun M w => Φ1 M w ∧ Sl M w rp (m.recs.drop j), hst, gr (cx2.add hs), refO L (folR r) p c, fun _ _ => True, inferInstance, fun w G cx => keepQ cx, by unfold I64; omega, p, r.log.length, c, fun w G cx => ⟨p, r.log.length, c, cx.get 0 rfl rfl, rfl⟩, ?_, fun k2 => ⟨fun w G cx => ?_, fun w G cx => ?_⟩⟩
      · have := (cx0.bufLen 2 rfl).2.1
        have e : (folR r).log.length = r.log.length := rfl
        rw [e] at this
        omega
      · have cx3 : Ctx W w (.blk k2 [] 55 :: (refO L (folR r) p c ++ (S ++ G))) (fun _ _ => True) := (cx.weak fun _ _ _ => trivial).re (by simp)
        exact cx3.drop1.sub (List.Sublist.append_left (List.sublist_append_right _ _) _)
      have cx3 : Ctx W w (refO L (folR r) p c ++ (.blk k2 [] 55 :: S ++ G)) (fun M w => Φ1 M w ∧ Sl M w rp (m.recs.drop j)) := (cx.re (by simp : _ = Own.blk k2 [] 55 :: (refO L (folR r) p c ++ (S ++ G)))).perm List.perm_middle.symm
      have hcp : r.log.length ≤ c := (cx3.bufLen 1 rfl).2.1
      have hst4 : Stable (Aside W (refO L (folR r) p c) (fun M w => Φ1 M w ∧ Sl M w rp (m.recs.drop j))) := instStableAside W _ _
      have hla : (m.index + (j : Int) + 1 - 1).toNat = (r.log.take (m.index.toNat + j)).length := by rw [htl]; omega
      have hsub0 : subPtr p 2 0 c = p := by unfold subPtr; split; rfl; cases p <;> simp [Addr.add]
      rw [hla, hsub0]
      obtain ⟨np, ncap, w', cs, hrun, cx'⟩ := Ctx.cloned (P := Try.prog) (α := RecD) (ts := 35) (ty := 35) (kb := #[false, false]) (bytes := 24) (c2 := c) cx3.aside (by kernel_rfl) rec_one (fun M w h => Sl.take (log_sl h (p := p) (n := r.log.length) (c := c) (by simp [folR]) hr.recs) (m.index.toNat + j)) (by omega) (by omega)
      obtain ⟨rfl, _⟩ := elems_recs cx'.phi.2
      have cx4 : Ctx W w' (refO L (folR r) p c ++ (.buf np (r.log.take (m.index.toNat + j)).length ncap (recCells (r.log.take (m.index.toNat + j))) 55 2 :: S) ++ G) (fun M w => Φ1 M w ∧ Sl M w rp (m.recs.drop j)) := Ctx.unasideF (T := .buf np (r.log.take (m.index.toNat + j)).length ncap (recCells (r.log.take (m.index.toNat + j))) 55 2 :: S) cx'.fst
      refine ⟨np, _, ncap, w', hrun, _, _, hst, cx4, fun w G cx => keepQ cx, fun w G cx => ?_⟩
      have cx5 := lift (Q := refO L (folR r) p c) cx
      obtain ⟨p', cap', w', news, hrun, _, cx'⟩ := Ctx.appSl (P := Try.prog) (α := RecD) (ts := 35) (ty := 35) (kb := #[false, false]) (bytes := 24) (c2 := rcap) cx5 (by kernel_rfl) rec_one (fun M w h => h.2) (by rw [List.length_drop]; omega) (by rw [htl, List.length_drop]; omega) (by omega)
      have hnews := (elems_recs cx'.phi.2).1
      subst hnews
      have hnl : (r.log.take (m.index.toNat + j)).length + (m.recs.drop j).length = (appR r m j).log.length := by show _ = (r.log.take (m.index.toNat + j) ++ m.recs.drop j).length; rw [List.length_append]
      have hnc : recCells (r.log.take (m.index.toNat + j)) ++ recCells (m.recs.drop j) = recCells (appR r m j).log := by rw [← recs_app]; rfl
      rw [hnl] at hrun
      rw [hnl, hnc] at cx'
      have cx6 : Ctx W w' (.buf p' (appR r m j).log.length cap' (recCells (appR r m j).log) 55 2 :: (refO L (folR r) p c ++ S) ++ G) (fun M w => Φ1 M w ∧ Sl M w rp (m.recs.drop j)) := cx'.weak fun M w h => h.1
      refine ⟨p', _, cap', w', hrun, _, _, hst, cx6, fun w G cx => keepQ ((cx.re (by simp : _ = Own.buf p' (appR r m j).log.length cap' (recCells (appR r m j).log) 55 2 :: (refO L (folR r) p c ++ S ++ G))).drop1), fun w G cx => ⟨cx.can 1 rfl (by simp), fun w' hw' => ?_⟩⟩
      have hcells : ((folR r).qcells L p c).set 3 (.slice p' (appR r m j).log.length cap') = ({ appR r m j with commit := r.commit } : Rep).qcells L p' cap' := by simp [Rep.qcells, appR, folR]
      have cx7 : Ctx W w' (refO L { appR r m j with commit := r.commit } p' cap' ++ S ++ G) (fun M w => Φ1 M w ∧ Sl M w rp (m.recs.drop j)) := by
        have h1 : Ctx W w' (.buf p' (appR r m j).log.length cap' (recCells (appR r m j).log) 55 2 :: .blk L.b (((folR r).qcells L p c).set 3 (.slice p' (appR r m j).log.length cap')) 67 :: .buf p r.log.length c (recCells r.log) 55 2 :: (.blk L.v r.vc 4 :: .blk L.n r.nc 3 :: .blk L.m r.mc 3 :: S ++ G)) (fun M w => Φ1 M w ∧ Sl M w rp (m.recs.drop j)) := cx.put 1 hw' rfl
        rw [hcells] at h1
        exact (h1.sub (List.Sublist.cons_cons _ (List.Sublist.cons_cons _ (List.sublist_cons_self _ _)))).swap
      refine ⟨_, _, hst, cx7, by unfold I64; omega, fun w G cx => ⟨r.commit, cx.get 0 rfl rfl, fun w G cx => ⟨cx.can 0 rfl (by simp), fun w' hw' => ?_⟩⟩⟩
      rw [hcv { appR r m j with commit := r.commit } rfl] at hw'
      have cx9 : Ctx W w' (refO L (appR r m j) p' cap' ++ S ++ G) (fun M w => Φ1 M w ∧ Sl M w rp (m.recs.drop j)) := gr (put_ref (gl cx) hw' (appR r m j) rfl rfl rfl rfl rfl)
      refine ⟨_, _, hst, cx9, fun k3 w G cx => ?_⟩
      obtain ⟨cx10, hs2⟩ := Ctx.freezeBlk (S := (refO L (appR r m j) p' cap' ++ S) ++ G) cx (Elems.one (rep_msg (x := ackOf r m) hao (Nat.le_refl _) (by simp [maxLen]) Sl.nil))
      have cx11 : Ctx W w (refO L (appR r m j) p' cap' ++ S) (fun M w => (Φ1 M w ∧ Sl M w rp (m.recs.drop j)) ∧ Sl M w (some ⟨k3, 0, none⟩) [ackOf r m]) := Ctx.left (F := G) (cx10.add (Ψ := fun M w => Sl M w (some ⟨k3, 0, none⟩) [ackOf r m]) hs2)
      have hkk := hK L p' cap' rp rcap (some ⟨k3, 0, none⟩) 1 w rfl hrc1 hrc2 (by simp) (by simp [maxLen]) (cx11.weak fun M w h => ⟨h.1.1, h.1.2, h.2⟩)
      rw [show m.index + (j : Int) + 1 = ((m.index.toNat + j + 1 : Nat) : Int) by omega]
      exact hkk
  · have hge : j = m.recs.length := by omega
    subst hge
    rw [List.drop_length] at hag
    have hag : ¬ appK r m < m.recs.length := by omega
    rw [append_same h h2 h3 hag] at hK
    have hd : decide ((m.recs.length : Int) < (m.recs.length : Int)) = false := decide_eq_false (by omega)
    have hno : ∀ {P : Prop}, decide ((m.recs.length : Int) < (m.recs.length : Int)) = true → P := fun h => by rw [hd] at h; cases h
    have hno2 : ∀ {b : Bool} {P : Prop}, (decide ((m.recs.length : Int) < (m.recs.length : Int)) && b) = true → P := fun h => by rw [hd] at h; cases h
    refine fun w G cx => ⟨hno, hno, none, 0, 0, hno, hno2, hno2, 0, hno2, hno2, hno2, ptrK_off (by rw [hd]; rfl) fun _ _ => ⟨0, hno2, Br.intro (fun h' => by rw [hd] at h'; cases h') (fun _ => Br.intro hno (fun _ => ⟨by unfold I64; omega, fun w G cx => ⟨r.commit, cx.get 0 rfl rfl, fun w G cx => ⟨cx.can 0 rfl (by simp), fun w' hw' => ?_⟩⟩⟩))⟩⟩
    rw [hcv r rfl] at hw'
    have cx9 : Ctx W w' (refO L (sameR r m) p c ++ S ++ G) Φ1 := gr (put_ref (gl cx) hw' (sameR r m) rfl rfl rfl rfl rfl)
    exact ⟨_, Φ1, inferInstance, cx9, fun k w G cx => hK.one hao rfl cx⟩

end Go.Proofs.Ytifgijoeckoojaa
end

/-
  The reference's replica: Propose, New.
-/
section
set_option linter.unusedVariables false
set_option linter.unusedSimpArgs false
namespace Go.Proofs.Ytifgijoeckoojaa
open Go.Vc


/-- only what a read needs is looked at -/
theorem wkA {W w : World} {A Q S G : List Own} {Φ : PW} [Stable Φ] (c : Ctx W w (A ++ (Q ++ S) ++ G) Φ) : Ctx W w (Q ++ G) (fun _ _ => True) :=
  (c.weak fun _ _ _ => trivial).sub (List.Sublist.append_right ((List.sublist_append_left Q S).trans (List.sublist_append_right A _)) G)

/-- the log is copied -/
theorem clone_log {W w : World} {A S G : List Own} {Φ : PW} [Stable Φ] {L : Loc} {r : Rep} {p : Option Addr} {c k : Nat} (cx : Ctx W w (.blk k [] 55 :: (A ++ (refO L r p c ++ S)) ++ G) Φ) (hok : ∀ x ∈ r.log, x.Ok) (hlen : r.log.length < 100000000) :
    ∃ p' cap' w', Sem.run Try.prog (builtin Builtin.append #[35, 35] 35 #[false, false] #[.slice (some ⟨k, 0, none⟩) 0 0, .slice p r.log.length c]) w = .ok (.value (.slice p' r.log.length cap')) w' ∧ Ctx W w' (.buf p' r.log.length cap' (recCells r.log) 55 2 :: (A ++ (refO L r p c ++ S)) ++ G) Φ := by
  have e : ∀ (a : Own), (a :: (A ++ (refO L r p c ++ S)) ++ G).Perm (refO L r p c ++ (a :: (A ++ (S ++ G)))) := fun a => by
    refine List.Perm.trans (List.Perm.cons a ?_) List.perm_middle.symm
    show ((A ++ (refO L r p c ++ S)) ++ G).Perm _
    rw [List.append_assoc, List.append_assoc]
    exact List.perm_append_comm_assoc _ _ _
  have cx1 := (cx.perm (e _)).aside
  obtain ⟨p', cap', w', cs, hrun, cx'⟩ := Ctx.cloned (P := Try.prog) (α := RecD) (ts := 35) (ty := 35) (kb := #[false, false]) (bytes := 24) (c2 := c) cx1 (by kernel_rfl) rec_one (fun M w h => log_sl h (p := p) (n := r.log.length) (c := c) (by simp) hok) hlen (by omega)
  obtain ⟨rfl, _⟩ := elems_recs cx'.phi.2
  exact ⟨p', cap', w', hrun, cx'.fst.unaside.perm (e _).symm⟩

theorem prop_put {W w w' : World} {S : List Own} {Φ : PW} [Stable Φ] {L : Loc} {r : Rep} {data : ByteArray} {p p' : Option Addr} {c cap' k0 : Nat} (cx : Ctx W w (.buf p' (r.log.length + 1) cap' (recCells r.log ++ [.int .i64 r.term, .string data]) 55 2 :: .blk k0 zeroO 45 :: (refO L r p c ++ S)) Φ)
    (e : w' = w.setCell ⟨L.b, 3, none⟩ (.slice p' (r.log.length + 1) cap')) : Ctx W w' (refO L (propR r data) p' cap' ++ .blk k0 zeroO 45 :: S) Φ := by
  have hpl : (propR r data).log.length = r.log.length + 1 := by simp [propR]
  have hc : (r.qcells L p c).set 3 (.slice p' (r.log.length + 1) cap') = (propR r data).qcells L p' cap' := by simp [Rep.qcells, propR]
  have hb : recCells r.log ++ [.int .i64 r.term, .string data] = recCells (propR r data).log := by
    show _ = recCells (r.log ++ [⟨r.term, data⟩])
    rw [recs_app]; rfl
  have h1 : Ctx W w' (.buf p' (r.log.length + 1) cap' (recCells r.log ++ [.int .i64 r.term, .string data]) 55 2 :: .blk k0 zeroO 45 :: .blk L.b ((r.qcells L p c).set 3 (.slice p' (r.log.length + 1) cap')) 67 :: .buf p r.log.length c (recCells r.log) 55 2 :: .blk L.v r.vc 4 :: .blk L.n r.nc 3 :: .blk L.m r.mc 3 :: S) Φ := cx.put 2 e rfl
  rw [hc, hb, ← hpl] at h1
  have h2 := h1.sub (List.Sublist.cons_cons _ (List.Sublist.cons_cons _ (List.Sublist.cons_cons _ (List.sublist_cons_self _ _))))
  refine h2.perm ?_
  refine (List.perm_middle (l₁ := [Own.buf p' (propR r data).log.length cap' (recCells (propR r data).log) 55 2, Own.blk k0 zeroO 45])).trans ?_
  exact List.Perm.cons _ (List.Perm.cons _ (List.perm_middle (l₁ := [Own.blk L.v r.vc 4, Own.blk L.n r.nc 3, Own.blk L.m r.mc 3])).symm)

set_option maxHeartbeats 4000000 in
theorem qPropose_use {W w : World} {S : List Own} {Φ : PW} [Stable Φ] {L : Loc} {r : Rep} {p : Option Addr} {c : Nat} (cx : Ctx W w (refO L r p c ++ S) Φ) (hr : r.Ok) (ht : r.role = 2 → 1 ≤ r.term) (data : ByteArray) {K : Ending → World → Prop}
    (hK : OutQ W S Φ L.b (proposeP r data).1 (proposeP r data).2.2.2 fun v w => K (.returned (.tuple #[.int .i64 (proposeP r data).2.1, .int .i64 (proposeP r data).2.2.1, v])) w) : Calls Try.prog F.errataref08_Replica_Propose #[.pointer (some ⟨L.b, 0, none⟩), .string data] w K := by
  have hlen := hr.len
  refine (Berrataref08_Replica_Propose_run L.b 0 data (J := fun u w' => K (.returned u) w') cx ?_).mono fun e w' ⟨v, he, hj⟩ => by rw [he]; exact hj
  refine fun k0 w G cx => ⟨r.role, cx.get 1 rfl rfl, Br.intro (fun h => fun w G cx => ⟨cx.can 0 rfl (by simp), fun w' hw' => ?_⟩) (fun h => Br.intro (fun h2 => fun w G cx => ⟨cx.can 0 rfl (by simp), fun w' hw' => ?_⟩) (fun h2 => fun w G cx => ⟨p, r.log.length, c, cx.get 1 rfl rfl, Br.intro (fun h3 => fun w G cx => ⟨cx.can 0 rfl (by simp), fun w' hw' => ?_⟩) (fun h3 => fun w G cx => ⟨r.term, cx.get 1 rfl rfl, fun _ => ?_⟩)⟩))⟩
  · rw [prop_no (of_decide_eq_true h)] at hK
    have cx1 : Ctx W w' (.blk k0 zeroO 45 :: (refO L r p c ++ S) ++ G) Φ := cx.puts 0 hw' rfl
    exact ⟨_, Φ, inferInstance, cx1, fun w G cx => ⟨_, _, _, _, none, _, 0, none, _, 0, cx.row0 0 rfl, fun w G cx => hK.zero cx.left.drop1⟩⟩
  · rw [prop_big (of_decide_eq_false h) (of_decide_eq_true h2)] at hK
    have cx1 : Ctx W w' (.blk k0 zeroO 45 :: (refO L r p c ++ S) ++ G) Φ := cx.puts 0 hw' rfl
    exact ⟨_, Φ, inferInstance, cx1, fun w G cx => ⟨_, _, _, _, none, _, 0, none, _, 0, cx.row0 0 rfl, fun w G cx => hK.zero cx.left.drop1⟩⟩
  · rw [prop_full (of_decide_eq_false h) (of_decide_eq_false h2) (by have := of_decide_eq_true h3; omega)] at hK
    have cx1 : Ctx W w' (.blk k0 zeroO 45 :: (refO L r p c ++ S) ++ G) Φ := cx.puts 0 hw' rfl
    exact ⟨_, Φ, inferInstance, cx1, fun w G cx => ⟨_, _, _, _, none, _, 0, none, _, 0, cx.row0 0 rfl, fun w G cx => hK.zero cx.left.drop1⟩⟩
  have h := of_decide_eq_false h
  have h2 := of_decide_eq_false h2
  have h3' : ¬ r.log.length = 4000 := fun e => (of_decide_eq_false h3) (by omega)
  have hrole : r.role = 2 := Decidable.not_not.1 h
  rw [prop_ok h h2 h3'] at hK
  have hpo := propR_ok hr hrole (ht hrole) h2 h3'
  have hpl : (propR r data).log.length = r.log.length + 1 := by simp [propR]
  have hlok : ∀ x ∈ r.log, x.Ok := hr.recs
  -- what follows when everything has been made
  have hfit : ∀ i, i < 3 → Fit (propR r data) i := fun i hi => hpo.fit hrole hi
  have hst : ∀ q, Stable (fun M w => Φ M w ∧ Sl M w q (allOf (propR r data))) := fun q => inferInstance
  have tail : ∀ (k : Nat) (p' : Option Addr) (cap' : Nat) (q : Option Addr) (cap : Nat), (allOf (propR r data)).length ≤ cap → cap ≤ maxLen → ∀ (w : World) (G : List Own), Ctx W w (.blk k [.int .i64 r.term, .string data] 55 :: (refO L (propR r data) p' cap' ++ .blk k0 zeroO 45 :: S) ++ G) (fun M w => Φ M w ∧ Sl M w q (allOf (propR r data))) →
      CanWrite w k0 0 6 ∧ ∀ w', w' = w.setCells k0 0 [.bool false, .int .i64 0, .int .i64 0, .int .i64 ((propR r data).log.length : Nat), .slice (some (Addr.mk k 0 none)) 1 1, .slice q (allOf (propR r data)).length cap] →
        ∃ (R : List Own) (Φ' : PW), Stable Φ' ∧ Ctx W w' (R ++ G) Φ' ∧
          ∀ (w : World) (F' : List Own), Ctx W w (R ++ F') Φ' → ∃ (c1 : Bool) (n1 n2 n3 : Int) (p1 : Option Addr) (k1 k2 : Nat) (p2 : Option Addr) (k3 k4 : Nat), RowAt w k0 0 [.bool c1, .int .i64 n1, .int .i64 n2, .int .i64 n3, .slice p1 k1 k2, .slice p2 k3 k4] ∧
            ∀ (w : World) (F' : List Own), Ctx W w (R ++ F') Φ' → K (.returned (.tuple #[.int .i64 ((propR r data).log.length : Nat), .int .i64 0, .agg #[.bool c1, .int .i64 n1, .int .i64 n2, .int .i64 n3, .slice p1 k1 k2, .slice p2 k3 k4]])) w := by
    intro k p' cap' q cap hcap hmax w G cx
    refine ⟨cx.can 6 rfl (by simp), fun w' hw' => ?_⟩
    have := hst q
    have cx2 := cx.puts 6 hw' rfl
    refine ⟨.blk k [.int .i64 r.term, .string data] 55 :: (refO L (propR r data) p' cap' ++ .blk k0 [.bool false, .int .i64 0, .int .i64 0, .int .i64 ((propR r data).log.length : Nat), .slice (some (Addr.mk k 0 none)) 1 1, .slice q (allOf (propR r data)).length cap] 45 :: S), _, hst q, cx2, fun w G cx => ⟨_, _, _, _, _, _, _, _, _, _, cx.row0 6 rfl, fun w G cx => ?_⟩⟩
    have hxo : ((⟨r.term, data⟩ : RecD)).Ok := ⟨by have := hr.term0; have := hr.termM; show I64 r.term; unfold I64; omega, by show data.size ≤ maxLen; unfold maxLen; omega⟩
    obtain ⟨cx3, hs⟩ := cx.left.freezeBlk (α := RecD) (l := [⟨r.term, data⟩]) (Elems.one (rep_rec hxo))
    have cx4 := (front (cx3.add (Ψ := fun M w => Sl M w (some ⟨k, 0, none⟩) [(⟨r.term, data⟩ : RecD)]) hs)).drop1
    have := hK L p' cap' (some ⟨k, 0, none⟩) 1 q cap w rfl (by simp) (by simp [maxLen]) hcap hmax (cx4.weak fun M w h => ⟨h.1.1, h.2, h.1.2⟩)
    rw [hpl]
    exact this
  have hs2 : subPtr p 2 0 c = p := by unfold subPtr; split; rfl; cases p <;> simp [Addr.add]
  refine ⟨refO L r p c, fun _ _ => True, inferInstance, fun w G cx => wkA (A := [_]) cx, p, r.log.length, c, fun w G cx => ⟨p, r.log.length, c, cx.get 0 rfl rfl, rfl⟩, ⟨fun k1 => ⟨fun w G cx => wkA (A := [_, _]) cx, ⟨fun w G cx => ?_, fun k2 => ⟨fun w G cx => wkA (A := [_, _, _]) cx, fun w G cx => ?_, trivial⟩, trivial⟩⟩, fun k2 => ⟨fun w G cx => wkA (A := [_, _]) cx, fun k1 => ⟨fun w G cx => wkA (A := [_, _, _]) cx, fun w G cx => ?_, trivial⟩, trivial⟩, trivial⟩⟩
  · obtain ⟨np, ncap, w', hrun, cx⟩ := clone_log (A := [.blk k0 zeroO 45]) cx hlok (by omega)
    refine ⟨np, _, ncap, w', hrun, _, Φ, inferInstance, cx, fun w G cx => wkA (A := [_, _]) cx, fun k2 => ⟨fun w G cx => wkA (A := [_, _, _]) cx, fun w G cx => ?_, trivial⟩, trivial⟩
    have cx1 : Ctx W w (.blk k2 [.int .i64 r.term, .string data] 55 :: .buf np r.log.length ncap (recCells r.log) 55 2 :: ([.blk k0 zeroO 45] ++ (refO L r p c ++ S) ++ G)) Φ := cx
    obtain ⟨p', cap', w', hrun, _, cx'⟩ := Ctx.app1 (P := Try.prog) (ts := 35) (ty := 35) (kb := #[false, false]) (size := 2) (bytes := 24) cx1 (by kernel_rfl) (by omega) rfl rfl (by omega) (by omega)
    refine ⟨p', _, cap', w', hrun, .buf p' (r.log.length + 1) cap' (recCells r.log ++ [Value.int .i64 r.term, Value.string data]) 55 2 :: .blk k0 zeroO 45 :: (refO L r p c ++ S), Φ, inferInstance, cx', fun w G cx => wkA (A := [_, _]) cx, fun w G cx => ⟨cx.can 2 rfl (by simp), fun w' hw' => ?_⟩⟩
    have cx2 : Ctx W w' (refO L (propR r data) p' cap' ++ .blk k0 zeroO 45 :: (S ++ G)) Φ := prop_put (L := L) (r := r) (data := data) (p := p) (c := c) (k0 := k0) (cx.re (by simp)) hw'
    exact ⟨refO L (propR r data) p' cap' ++ .blk k0 zeroO 45 :: S, Φ, inferInstance, cx2.re (by simp), refO L (propR r data) p' cap', fun _ _ => True, inferInstance, fun w G cx => keepQ cx, p', _, cap', fun w G cx => ⟨p', _, cap', cx.get 0 rfl rfl, rfl⟩, p', _, cap', fun w G cx => ⟨p', _, cap', cx.get 0 rfl rfl, rfl⟩, ⟨fun k => ⟨fun w G cx => wkA (A := [_]) cx, fun w G cx => qall_use (mid (Q := refO L (propR r data) p' cap') (a := .blk k [.int .i64 r.term, .string data] 55) (S := .blk k0 zeroO 45 :: (S ++ G)) (cx.re (by simp))) hpo hfit fun q cap w g1 g2 cx => ⟨q, _, cap, rfl, .blk k [.int .i64 r.term, .string data] 55 :: (refO L (propR r data) p' cap' ++ .blk k0 zeroO 45 :: S), _, hst q, (by have := hst q; exact (front (Q := refO L (propR r data) p' cap') (a := .blk k [.int .i64 r.term, .string data] 55) (S := .blk k0 zeroO 45 :: (S ++ G)) cx).re (by simp)), fun w G cx => (by have := hst q; exact wkA (A := [_]) cx), fun w G cx => tail k p' cap' q cap g1 g2 w G cx⟩, trivial⟩, fun w G cx => qall_use (gl cx) hpo hfit fun q cap w g1 g2 cx => ⟨q, _, cap, rfl, refO L (propR r data) p' cap' ++ .blk k0 zeroO 45 :: S, _, hst q, gr cx, fun w G cx => (by have := hst q; exact keepQ cx), fun k => ⟨fun w G cx => (by have := hst q; exact wkA (A := [_]) cx), fun w G cx => tail k p' cap' q cap g1 g2 w G cx⟩, trivial⟩, trivial⟩⟩
  · obtain ⟨np, ncap, w', hrun, cx⟩ := clone_log (A := [.blk k0 zeroO 45]) (S := S) (G := .blk k2 [.int .i64 r.term, .string data] 55 :: G) (cx.perm (by
      refine List.Perm.trans ?_ (List.perm_middle (l₁ := .blk k1 [] 55 :: ([.blk k0 zeroO 45] ++ (refO L r p c ++ S)))).symm
      exact List.Perm.refl _)) hlok (by omega)
    have cx1 : Ctx W w' (.blk k2 [.int .i64 r.term, .string data] 55 :: .buf np r.log.length ncap (recCells r.log) 55 2 :: ([.blk k0 zeroO 45] ++ (refO L r p c ++ S)) ++ G) Φ := cx.perm List.perm_middle
    refine ⟨np, _, ncap, w', hrun, _, Φ, inferInstance, cx1, fun w G cx => wkA (A := [_, _, _]) cx, fun w G cx => ?_, trivial⟩
    have cx1 : Ctx W w (.blk k2 [.int .i64 r.term, .string data] 55 :: .buf np r.log.length ncap (recCells r.log) 55 2 :: ([.blk k0 zeroO 45] ++ (refO L r p c ++ S) ++ G)) Φ := cx
    obtain ⟨p', cap', w', hrun, _, cx'⟩ := Ctx.app1 (P := Try.prog) (ts := 35) (ty := 35) (kb := #[false, false]) (size := 2) (bytes := 24) cx1 (by kernel_rfl) (by omega) rfl rfl (by omega) (by omega)
    refine ⟨p', _, cap', w', hrun, .buf p' (r.log.length + 1) cap' (recCells r.log ++ [Value.int .i64 r.term, Value.string data]) 55 2 :: .blk k0 zeroO 45 :: (refO L r p c ++ S), Φ, inferInstance, cx', fun w G cx => wkA (A := [_, _]) cx, fun w G cx => ⟨cx.can 2 rfl (by simp), fun w' hw' => ?_⟩⟩
    have cx2 : Ctx W w' (refO L (propR r data) p' cap' ++ .blk k0 zeroO 45 :: (S ++ G)) Φ := prop_put (L := L) (r := r) (data := data) (p := p) (c := c) (k0 := k0) (cx.re (by simp)) hw'
    exact ⟨refO L (propR r data) p' cap' ++ .blk k0 zeroO 45 :: S, Φ, inferInstance, cx2.re (by simp), refO L (propR r data) p' cap', fun _ _ => True, inferInstance, fun w G cx => keepQ cx, p', _, cap', fun w G cx => ⟨p', _, cap', cx.get 0 rfl rfl, rfl⟩, p', _, cap', fun w G cx => ⟨p', _, cap', cx.get 0 rfl rfl, rfl⟩, ⟨fun k => ⟨fun w G cx => wkA (A := [_]) cx, fun w G cx => qall_use (mid (Q := refO L (propR r data) p' cap') (a := .blk k [.int .i64 r.term, .string data] 55) (S := .blk k0 zeroO 45 :: (S ++ G)) (cx.re (by simp))) hpo hfit fun q cap w g1 g2 cx => ⟨q, _, cap, rfl, .blk k [.int .i64 r.term, .string data] 55 :: (refO L (propR r data) p' cap' ++ .blk k0 zeroO 45 :: S), _, hst q, (by have := hst q; exact (front (Q := refO L (propR r data) p' cap') (a := .blk k [.int .i64 r.term, .string data] 55) (S := .blk k0 zeroO 45 :: (S ++ G)) cx).re (by simp)), fun w G cx => (by have := hst q; exact wkA (A := [_]) cx), fun w G cx => tail k p' cap' q cap g1 g2 w G cx⟩, trivial⟩, fun w G cx => qall_use (gl cx) hpo hfit fun q cap w g1 g2 cx => ⟨q, _, cap, rfl, refO L (propR r data) p' cap' ++ .blk k0 zeroO 45 :: S, _, hst q, gr cx, fun w G cx => (by have := hst q; exact keepQ cx), fun k => ⟨fun w G cx => (by have := hst q; exact wkA (A := [_]) cx), fun w G cx => tail k p' cap' q cap g1 g2 w G cx⟩, trivial⟩, trivial⟩⟩
  · obtain ⟨np, ncap, w', hrun, cx⟩ := clone_log (A := [.blk k2 [.int .i64 r.term, .string data] 55, .blk k0 zeroO 45]) cx hlok (by omega)
    refine ⟨np, _, ncap, w', hrun, _, Φ, inferInstance, cx, fun w G cx => wkA (A := [_, _, _]) cx, fun w G cx => ?_, trivial⟩
    have cx1 : Ctx W w (.blk k2 [.int .i64 r.term, .string data] 55 :: .buf np r.log.length ncap (recCells r.log) 55 2 :: ([.blk k0 zeroO 45] ++ (refO L r p c ++ S) ++ G)) Φ := cx.swap
    obtain ⟨p', cap', w', hrun, _, cx'⟩ := Ctx.app1 (P := Try.prog) (ts := 35) (ty := 35) (kb := #[false, false]) (size := 2) (bytes := 24) cx1 (by kernel_rfl) (by omega) rfl rfl (by omega) (by omega)
    refine ⟨p', _, cap', w', hrun, .buf p' (r.log.length + 1) cap' (recCells r.log ++ [Value.int .i64 r.term, Value.string data]) 55 2 :: .blk k0 zeroO 45 :: (refO L r p c ++ S), Φ, inferInstance, cx', fun w G cx => wkA (A := [_, _]) cx, fun w G cx => ⟨cx.can 2 rfl (by simp), fun w' hw' => ?_⟩⟩
    have cx2 : Ctx W w' (refO L (propR r data) p' cap' ++ .blk k0 zeroO 45 :: (S ++ G)) Φ := prop_put (L := L) (r := r) (data := data) (p := p) (c := c) (k0 := k0) (cx.re (by simp)) hw'
    exact ⟨refO L (propR r data) p' cap' ++ .blk k0 zeroO 45 :: S, Φ, inferInstance, cx2.re (by simp), refO L (propR r data) p' cap', fun _ _ => True, inferInstance, fun w G cx => keepQ cx, p', _, cap', fun w G cx => ⟨p', _, cap', cx.get 0 rfl rfl, rfl⟩, p', _, cap', fun w G cx => ⟨p', _, cap', cx.get 0 rfl rfl, rfl⟩, ⟨fun k => ⟨fun w G cx => wkA (A := [_]) cx, fun w G cx => qall_use (mid (Q := refO L (propR r data) p' cap') (a := .blk k [.int .i64 r.term, .string data] 55) (S := .blk k0 zeroO 45 :: (S ++ G)) (cx.re (by simp))) hpo hfit fun q cap w g1 g2 cx => ⟨q, _, cap, rfl, .blk k [.int .i64 r.term, .string data] 55 :: (refO L (propR r data) p' cap' ++ .blk k0 zeroO 45 :: S), _, hst q, (by have := hst q; exact (front (Q := refO L (propR r data) p' cap') (a := .blk k [.int .i64 r.term, .string data] 55) (S := .blk k0 zeroO 45 :: (S ++ G)) cx).re (by simp)), fun w G cx => (by have := hst q; exact wkA (A := [_]) cx), fun w G cx => tail k p' cap' q cap g1 g2 w G cx⟩, trivial⟩, fun w G cx => qall_use (gl cx) hpo hfit fun q cap w g1 g2 cx => ⟨q, _, cap, rfl, refO L (propR r data) p' cap' ++ .blk k0 zeroO 45 :: S, _, hst q, gr cx, fun w G cx => (by have := hst q; exact keepQ cx), fun k => ⟨fun w G cx => (by have := hst q; exact wkA (A := [_]) cx), fun w G cx => tail k p' cap' q cap g1 g2 w G cx⟩, trivial⟩, trivial⟩⟩

end Go.Proofs.Ytifgijoeckoojaa
end

