/-
  Replica: Tick, vote, sound, right.
-/
import Derived.Test.YtifgijoeckoojaaRc
set_option linter.unusedVariables false
set_option linter.unusedSimpArgs false
namespace Go.Proofs.Ytifgijoeckoojaa
open Go.Vc

abbrev zeroM : List Value := [.int .i64 0, .int .i64 0, .int .i64 0, .int .i64 0, .int .i64 0, .int .i64 0, .int .i64 0, .bool false, .slice none 0 0]

theorem I64_small {x : Int} (h : -1 ≤ x) (h' : x ≤ 1099511627777) : I64 x := by unfold I64; omega

/-- a message without entries is right as data -/
theorem msg_ok0 {r : Rep} (h : r.Ok) {kind to index prev : Int} {yes : Bool} (h1 : 0 ≤ kind ∧ kind ≤ 3) (h2 : -1 ≤ to ∧ to ≤ 2) (h3 : -1 ≤ index ∧ index ≤ 8000) (h4 : 0 ≤ prev ∧ prev ≤ 1099511627776) : (⟨kind, r.id, to, r.term, index, prev, 0, yes, []⟩ : MsgR).Ok := by
  have h5 := h.id
  have h6 := h.term0
  have h7 := h.termM
  exact ⟨I64_small (by simp only; omega) (by simp only; omega), I64_small (by simp only; omega) (by simp only; omega), I64_small (by simp only; omega) (by simp only; omega), I64_small (by simp only; omega) (by simp only; omega), I64_small (by simp only; omega) (by simp only; omega), I64_small (by simp only; omega) (by simp only; omega), I64_small (by simp only; omega) (by simp only; omega)⟩

/-- answer, out of a block that holds the message -/
theorem reply {W w : World} {S G : List Own} {Φ : PW} [Stable Φ] {b k : Nat} {r : Rep} {p : Option Addr} {c : Nat} {m : MsgR} (cx : Ctx W w (repO b r p c ++ .blk k (m.cells none 0) 37 :: S ++ G) Φ) (hm : m.Ok) (hr : m.recs = []) {K : Value → World → Prop} (hK : OutK W S Φ b r (outS [m]) K)
    {K2 : Ending → World → Prop} (hk2 : ∀ q w', Ctx W w' (repO b r p c ++ .blk k (m.cells none 0) 37 :: S ++ G) (fun M w => Φ M w ∧ Sl M w q [m]) → (∀ w G', Ctx W w (repO b r p c ++ .blk k (m.cells none 0) 37 :: S ++ G') (fun M w => Φ M w ∧ Sl M w q [m]) → K (outV (outS [m]) none 0 q 1) w) → K2 (.returned (outV (outS [m]) none 0 q 1)) w') :
    Calls Try.prog F.replica_answer #[m.v none 0] w K2 := by
  refine answer_use cx m none 0 hm (by rw [hr]; exact Nat.le_refl _) (by simp [maxLen]) (fun M w h => by rw [hr]; exact Sl.nil) fun q w cx => hk2 q w cx fun w G' cx => ?_
  have hst : Stable (fun M w => Φ M w ∧ Sl M w q [m]) := inferInstance
  exact hK.sent (by simp) (by simp [maxLen]) (Ctx.left (F := G') (lift cx).drop1)

set_option maxHeartbeats 1000000 in
theorem vote_use {W w : World} {S : List Own} {Φ : PW} [Stable Φ] {b : Nat} {r : Rep} {p : Option Addr} {c : Nat} (cx : Ctx W w (repO b r p c ++ S) Φ) (hr : r.Ok) (m : MsgR) (q : Option Addr) (qc : Nat) (h1 : 0 ≤ m.src) (h2 : m.src ≤ 2) {K : Ending → World → Prop}
    (hK : OutK W S Φ b (voteP r m).1 (voteP r m).2 fun v w => K (.returned v) w) : Calls Try.prog F.replica_Replica_vote #[.pointer (some ⟨b, 0, none⟩), m.v q qc] w K := by
  have hlen := hr.len
  refine (Breplica_Replica_vote_run b 0 m.kind m.src m.to m.term m.index m.prev m.commit m.yes q m.recs.length qc (J := fun u w' => K (.returned u) w') cx ?_).mono fun e w' ⟨v, he, hj⟩ => by rw [he]; exact hj
  refine fun _ _ w G cx => message_use (gl cx) 1 m.src fun w cx => ⟨_, _, _, _, _, _, _, _, none, _, 0, rfl, repO b r p c ++ S, Φ, inferInstance, gr cx, fun k w G cx => ⟨cx.can 0 rfl (by simp), fun w' hw' => ?_⟩⟩
  have cx1 : Ctx W w' (repO b r p c ++ .blk k ((msgOf r 1 m.src).cells none 0) 37 :: S ++ G) Φ := sink (cx.puts 0 hw' rfl)
  refine ⟨_, Φ, inferInstance, cx1, fun w G cx => ⟨p, r.log.length, c, cx.get 0 rfl rfl, fun w G cx => term_use (gl cx) rfl (Nat.le_refl _) hlen fun w cx => ⟨_, rfl, _, Φ, inferInstance, gr cx, fun w G cx => ⟨p, r.log.length, c, fun _ => cx.get 0 rfl rfl, fun w G cx => ⟨r.term, cx.get 0 rfl rfl, r.vote, fun _ => cx.get 0 rfl rfl, r.vote, fun _ => cx.get 0 rfl rfl, Br.intro (fun h => ?_) (fun h => ?_)⟩⟩⟩⟩⟩
  · have hv : voteP r m = ({ r with vote := m.src }, outS [⟨1, r.id, m.src, r.term, 0, 0, 0, true, []⟩]) := by unfold voteP freshP; rw [if_pos h]
    rw [hv] at hK
    refine ⟨[], fun _ _ => True, inferInstance, fun w G cx => (cx.weak fun _ _ _ => trivial).right, fun w G cx => ⟨cx.can 2 rfl (by simp), fun w' hw' => ?_⟩⟩
    have cx1 : Ctx W w' (repO b r p c ++ .blk k ((⟨1, r.id, m.src, r.term, 0, 0, 0, true, []⟩ : MsgR).cells none 0) 37 :: S ++ G) Φ := cx.put 2 hw' rfl
    refine ⟨_, Φ, inferInstance, cx1, fun w G cx => (cx.weak fun _ _ _ => trivial).right, fun w G cx => ⟨cx.can 0 rfl (by simp), fun w' hw' => ?_⟩⟩
    have cx1 : Ctx W w' (repO b { r with vote := m.src } p c ++ .blk k ((⟨1, r.id, m.src, r.term, 0, 0, 0, true, []⟩ : MsgR).cells none 0) 37 :: S ++ G) Φ := gr (put_rep (gl cx) hw' { r with vote := m.src } rfl rfl)
    refine ⟨_, Φ, inferInstance, cx1, fun w G cx => ⟨_, _, _, _, _, _, _, _, none, _, 0, cx.row0 2 rfl, fun w G cx => ?_⟩⟩
    refine reply cx (msg_ok0 hr (by omega) (by omega) (by omega) (by omega)) rfl hK fun q w cx hfin => ⟨_, _, _, _, none, _, 0, q, _, 1, rfl, _, _, inferInstance, cx, fun w G cx => hfin w G cx⟩
  · have hv : voteP r m = (r, outS [msgOf r 1 m.src]) := by unfold voteP freshP; rw [if_neg (by rw [h]; simp)]
    rw [hv] at hK
    refine fun w G cx => ⟨_, _, _, _, _, _, _, _, none, _, 0, cx.row0 2 rfl, fun w G cx => ?_⟩
    refine reply cx (msg_ok0 hr (by omega) (by omega) (by omega) (by omega)) rfl hK fun q w cx hfin => ⟨_, _, _, _, none, _, 0, q, _, 1, rfl, _, _, inferInstance, cx, fun w G cx => hfin w G cx⟩

/-! ### Tick -/
def askR (r : Rep) : Rep := { r with term := r.term + 1, vote := r.id, role := 1, votes := fun i => decide (i = r.id) }

theorem tick_lead {r : Rep} (h : r.role = 2) : tickP r = (r, outS (allOf r)) := by unfold tickP; rw [if_pos h]
theorem tick_max {r : Rep} (h : ¬ r.role = 2) (h2 : r.term = 1099511627776) : tickP r = (r, out0) := by unfold tickP; rw [if_neg h, if_pos h2]
theorem tick_ask {r : Rep} (h : ¬ r.role = 2) (h2 : ¬ r.term = 1099511627776) : tickP r = (askR r, ⟨true, r.term + 1, r.id, 0, [], (othersOf r.id).map fun i => askOf (askR r) i⟩) := by unfold tickP; rw [if_neg h, if_neg h2]; rfl

theorem ask_ok {r : Rep} (h : r.Ok) (hr : ¬ r.role = 2) (h2 : ¬ r.term = 1099511627776) : (askR r).Ok := by
  have h3 := h.term0
  have h4 := h.termM
  have h5 := h.id
  refine ⟨h.id, by show 0 ≤ r.term + 1; omega, by show r.term + 1 ≤ _; omega, by show -1 ≤ (r.id : Int); omega, by show (r.id : Int) ≤ 2; omega, ⟨h.log.lo, fun x hx => ?_, h.log.data, h.log.asc⟩, h.len, .inr (.inl rfl), h.commit, fun h => ?_, h.bound⟩
  · have := h.log.hi x hx
    show x.term ≤ r.term + 1
    omega
  · cases (show (1 : Int) = 2 from h)

theorem askOf_ok {r : Rep} (h : r.Ok) (to : Nat) (ht : to < 3) : (askOf r to).Ok := by
  have h1 := h.termAt r.log.length
  have h2 := h.len
  have h4 := h.termM
  exact msg_ok0 h (by omega) (by omega) (by omega) (by omega)

set_option maxHeartbeats 2000000 in
theorem Tick_use {W w : World} {S : List Own} {Φ : PW} [Stable Φ] {b : Nat} {r : Rep} {p : Option Addr} {c : Nat} (cx : Ctx W w (repO b r p c ++ S) Φ) (hr : r.Ok) {K : Ending → World → Prop}
    (hK : OutK W S Φ b (tickP r).1 (tickP r).2 fun v w => K (.returned v) w) : Calls Try.prog F.replica_Replica_Tick #[.pointer (some ⟨b, 0, none⟩)] w K := by
  have hlen := hr.len
  have hid := hr.id
  have ht0 := hr.term0
  have htM := hr.termM
  refine (Breplica_Replica_Tick_run b 0 (J := fun u w' => K (.returned u) w') cx ?_).mono fun e w' ⟨v, he, hj⟩ => by rw [he]; exact hj
  refine fun _ w G cx => ⟨r.role, cx.get 0 rfl rfl, Br.intro (fun h => fun w G cx => ?_) (fun h => fun w G cx => ⟨r.term, cx.get 0 rfl rfl, Br.intro (fun h2 => fun w G cx => ?_) (fun h2 => ?_)⟩)⟩
  · have h := of_decide_eq_true h
    rw [tick_lead h] at hK
    refine all_use (gl cx) hr (fun i hi => hr.fit h hi) fun q cap w h1 h2 cx => ⟨q, _, cap, rfl, repO b r p c ++ S, fun M w => Φ M w ∧ Sl M w q (allOf r), inferInstance, gr cx, fun w G cx => hK.sent h1 h2 (Ctx.left (F := G) (Φ := fun M w => Φ M w ∧ Sl M w q (allOf r)) cx)⟩
  · rw [tick_max (of_decide_eq_false h) (of_decide_eq_true h2)] at hK
    exact hK.zero cx.left
  have h := of_decide_eq_false h
  have h2 := of_decide_eq_false h2
  rw [tick_ask h h2] at hK
  have hao := ask_ok hr h h2
  refine fun w G cx => ⟨r.id, cx.get 0 rfl rfl, fun w G cx => ⟨r.term, cx.get 0 rfl rfl, by unfold I64; omega, fun w G cx => ⟨cx.can 0 rfl (by simp), fun w' hw' => ?_⟩⟩⟩
  have cx1 := gr (puts_rep (gl cx) hw' { r with term := r.term + 1, vote := r.id } rfl rfl)
  refine ⟨_, Φ, inferInstance, cx1, fun w G cx => ⟨cx.can 0 rfl (by simp), fun w' hw' => ?_⟩⟩
  have cx1 := gr (put_rep (gl cx) hw' { r with term := r.term + 1, vote := r.id, role := 1 } rfl rfl)
  refine ⟨_, Φ, inferInstance, cx1, fun w G cx => ⟨cx.can 0 rfl (by simp), fun w' hw' => ?_⟩⟩
  have cx1 := gr (puts_rep (gl cx) hw' { r with term := r.term + 1, vote := r.id, role := 1, votes := fun _ => false } rfl rfl)
  refine ⟨_, Φ, inferInstance, cx1, [], fun _ _ => True, inferInstance, fun w G cx => (cx.weak fun _ _ _ => trivial).right, fun w G cx => ⟨r.id, cx.get 0 rfl rfl, by omega, fun w G cx => ⟨cx.can 0 rfl (by rw [Int.toNat_natCast]; simp; omega), fun w' hw' => ?_⟩⟩⟩
  have hvo : ({ r with term := r.term + 1, vote := r.id, role := 1, votes := put (fun _ => false) r.id true } : Rep) = askR r := by
    unfold askR
    congr 1
  rw [Int.toNat_natCast, Nat.zero_add] at hw'
  have cx1 := gr (put_rep (gl cx) hw' { r with term := r.term + 1, vote := r.id, role := 1, votes := put (fun _ => false) r.id true } (set_vote (r := { r with term := r.term + 1, vote := r.id, role := 1, votes := fun _ => false }) true (by omega)) rfl)
  rw [hvo] at cx1
  have hal : (othersOf r.id).length = 2 := others_len _
  obtain ⟨sl, hsl⟩ : ∃ l, (othersOf r.id).map (fun i => askOf (askR r) i) = l := ⟨_, rfl⟩
  have hsll : sl.length = 2 := by rw [← hsl, List.length_map, hal]
  rw [hsl] at hK
  refine ⟨_, Φ, inferInstance, cx1, fun w G cx => (cx.weak fun _ _ _ => trivial).right, fun w G cx => ⟨_, _, cx.row 0 rfl (rows_of (vs := [.int .i64 (r.term + 1), .int .i64 r.id]) rfl), fun _ w G cx => others_use (r := askR r) hid (gl cx) fun k rest w cx => ⟨some ⟨k, 0, none⟩, 2, 3, rfl, repO b (askR r) p c ++ .blk k ((othersOf r.id).map (fun x : Nat => intv (x : Int)) ++ rest) 3 :: S, Φ, inferInstance, gr (Q := repO b (askR r) p c) (T := .blk k ((othersOf r.id).map (fun x : Nat => intv (x : Int)) ++ rest) 3 :: S) (mid cx), ?_⟩⟩⟩
  refine exI_mk (fun iI sv tm vt fr rp rn rc q n cap R' Φ' m => ∃ (i : Nat) (gs : List Value), iI = i ∧ n = i ∧ i ≤ 2 ∧ sv = true ∧ tm = r.term + 1 ∧ vt = r.id ∧ fr = 0 ∧ rn = 0 ∧ rp = none ∧ rc = 0 ∧ R' = repO b (askR r) p c ++ (.buf q i cap gs 37 9 :: .blk k ((othersOf r.id).map (fun x : Nat => intv (x : Int)) ++ rest) 3 :: S) ∧ Φ' = (fun M w => Φ M w ∧ Elems M w gs (sl.take i)) ∧ m = 2 - i)
    ⟨⟨_, fun M w => Φ M w ∧ Elems M w [] (sl.take 0), _, inferInstance, fun w G cx => gr (Q := repO b (askR r) p c) (T := .buf none 0 0 [] 37 9 :: .blk k ((othersOf r.id).map (fun x : Nat => intv (x : Int)) ++ rest) 3 :: S) (mid ((gl (Q := repO b (askR r) p c) (cx.weak (Ψ := fun M w => Φ M w ∧ Elems M w [] (sl.take 0)) fun M w h => ⟨h, by rw [List.take_zero]; exact Elems.nil⟩)).nobuf 37 9)), 0, [], rfl, rfl, Nat.zero_le _, rfl, rfl, rfl, rfl, rfl, rfl, rfl, rfl, rfl, rfl⟩, ?_⟩
  rintro iI _ _ _ _ _ _ _ q i cap R1 Φ1 m _ ⟨_, gs, rfl, rfl, hi, rfl, rfl, rfl, rfl, rfl, rfl, rfl, rfl, rfl, rfl⟩
  refine Br.intro (fun hlt => ?_) (fun hge => fun w G cx => ?_)
  · have hlt : i < 2 := by have := of_decide_eq_true hlt; omega
    have hio : i < (othersOf r.id).length := by omega
    obtain ⟨n, hn⟩ : ∃ n, (othersOf r.id)[i] = n := ⟨_, rfl⟩
    have hn3 : n < 3 := hn ▸ (others_lt _ (List.getElem_mem hio)).1
    have hst : Stable (fun M w => Φ M w ∧ Elems M w gs (sl.take i)) := inferInstance
    refine ⟨by omega, ptrK_intro k 0 rfl fun w G cx => ⟨n, ?_, fun w G cx => ?_⟩⟩
    · rw [Int.toNat_natCast, Nat.zero_add]
      refine cx.get 3 rfl ?_
      rw [List.getElem?_append_left (by rw [List.length_map]; omega), List.getElem?_map, List.getElem?_eq_getElem hio, hn]
      rfl
    refine message_use (Φ := fun M w => Φ M w ∧ Elems M w gs (sl.take i)) (gl cx) 0 n fun w cx => ⟨_, _, _, _, _, _, _, _, none, _, 0, rfl, _, _, hst, gr cx, fun k2 w G cx => ⟨cx.can 0 rfl (by simp), fun w' hw' => ?_⟩⟩
    have cx1 : Ctx W w' (repO b (askR r) p c ++ .blk k2 ((msgOf (askR r) 0 n).cells none 0) 37 :: (.buf q i cap gs 37 9 :: .blk k ((othersOf r.id).map (fun x : Nat => intv (x : Int)) ++ rest) 3 :: S) ++ G) (fun M w => Φ M w ∧ Elems M w gs (sl.take i)) := sink (cx.puts 0 hw' rfl)
    refine ⟨_, _, hst, cx1, repO b (askR r) p c, fun _ _ => True, inferInstance, fun w G cx => keepQ cx, p, r.log.length, c, fun w G cx => ⟨p, r.log.length, c, cx.get 0 rfl rfl, rfl⟩, p, r.log.length, c, fun w G cx => ⟨p, r.log.length, c, cx.get 0 rfl rfl, rfl⟩, fun w G cx => term_use (gl cx) rfl (Nat.le_refl _) hlen fun w cx => ⟨_, rfl, repO b (askR r) p c ++ .blk k2 ((msgOf (askR r) 0 n).cells none 0) 37 :: (.buf q i cap gs 37 9 :: .blk k ((othersOf r.id).map (fun x : Nat => intv (x : Int)) ++ rest) 3 :: S), fun M w => Φ M w ∧ Elems M w gs (sl.take i), hst, gr cx, fun w G cx => keepQ cx, fun w G cx => ⟨cx.can 2 rfl (by simp), fun w' hw' => ?_⟩⟩⟩
    have cx1 : Ctx W w' (repO b (askR r) p c ++ .blk k2 ((⟨0, r.id, n, r.term + 1, r.log.length, 0, 0, false, []⟩ : MsgR).cells none 0) 37 :: (.buf q i cap gs 37 9 :: .blk k ((othersOf r.id).map (fun x : Nat => intv (x : Int)) ++ rest) 3 :: S) ++ G) (fun M w => Φ M w ∧ Elems M w gs (sl.take i)) := cx.put 2 hw' rfl
    refine ⟨_, _, hst, cx1, fun w G cx => keepQ cx, fun w G cx => ⟨cx.can 2 rfl (by simp), fun w' hw' => ?_⟩⟩
    have cx1 : Ctx W w' (repO b (askR r) p c ++ .blk k2 ((askOf (askR r) n).cells none 0) 37 :: (.buf q i cap gs 37 9 :: .blk k ((othersOf r.id).map (fun x : Nat => intv (x : Int)) ++ rest) 3 :: S) ++ G) (fun M w => Φ M w ∧ Elems M w gs (sl.take i)) := cx.put 2 hw' rfl
    refine ⟨_, _, hst, cx1, fun w G cx => ⟨_, _, _, _, _, _, _, _, none, _, 0, cx.row0 2 rfl, fun k3 w G cx => ?_⟩⟩
    have cx1 : Ctx W w (.blk k3 ((askOf (askR r) n).cells none 0) 37 :: .buf q i cap gs 37 9 :: (repO b (askR r) p c ++ (.blk k2 ((askOf (askR r) n).cells none 0) 37 :: (.blk k ((othersOf r.id).map (fun x : Nat => intv (x : Int)) ++ rest) 3 :: S)) ++ G)) (fun M w => Φ M w ∧ Elems M w gs (sl.take i)) := by
      refine cx.perm (List.Perm.cons _ ?_)
      exact (List.Perm.append_right G (List.Perm.append_left _ (List.Perm.swap _ _ _))).trans (List.Perm.append_right G List.perm_middle)
    obtain ⟨p', cap', w', hrun, _, cx'⟩ := Ctx.app1 (P := Try.prog) (ts := 27) (ty := 27) (kb := #[false, false]) (size := 9) (bytes := 88) cx1 (by kernel_rfl) (by omega) rfl rfl (by omega) (by omega)
    have hst3 : Stable (fun M w => Φ M w ∧ Elems M w (gs ++ (askOf (askR r) n).cells none 0) (sl.take (i + 1))) := inferInstance
    have htk : sl.take (i + 1) = sl.take i ++ [askOf (askR r) n] := by
      rw [List.take_succ_eq_append_getElem (by omega)]
      congr 2
      simp only [← hsl, List.getElem_map, hn]
    have cx2 := (front (gl (Q := .buf p' (i + 1) cap' (gs ++ (askOf (askR r) n).cells none 0) 37 9 :: repO b (askR r) p c) (T := .blk k2 ((askOf (askR r) n).cells none 0) 37 :: (.blk k ((othersOf r.id).map (fun x : Nat => intv (x : Int)) ++ rest) 3 :: S)) cx')).drop1
    refine ⟨p', i + 1, cap', w', hrun, repO b (askR r) p c ++ (.buf p' (i + 1) cap' (gs ++ (askOf (askR r) n).cells none 0) 37 9 :: .blk k ((othersOf r.id).map (fun x : Nat => intv (x : Int)) ++ rest) 3 :: S), fun M w => Φ M w ∧ Elems M w (gs ++ (askOf (askR r) n).cells none 0) (sl.take (i + 1)), hst3, gr (mid (cx2.weak fun M w h => ⟨h.1, ?_⟩)), by unfold I64; omega, _, _, 2 - (i + 1), hst3, fun w G cx => cx, ⟨i + 1, _, by omega, rfl, by omega, rfl, rfl, rfl, rfl, rfl, rfl, rfl, rfl, rfl, rfl⟩, by omega⟩
    rw [htk]
    exact h.2.snoc (rep_msg (askOf_ok hao n hn3) (Nat.le_refl _) (by simp [maxLen]) Sl.nil)
  · have hge : i = 2 := by have := of_decide_eq_false hge; omega
    subst hge
    have htk : sl.take 2 = sl := by rw [← hsll, List.take_length]
    have cx1 := front (gl cx)
    have h := cx1.phi.2
    rw [htk] at h
    have cx2 : Ctx W w (.buf q 2 cap gs 37 9 :: (repO b (askR r) p c ++ (.blk k ((othersOf r.id).map (fun x : Nat => intv (x : Int)) ++ rest) 3 :: S ++ G))) Φ := cx1.fst
    obtain ⟨cx3, hs, _, hcap, hmax⟩ := Ctx.freeze (α := MsgR) cx2 h
    have cx4 := (front (cx3.add (Ψ := fun M w => Sl M w q sl) hs)).drop1
    have := hK p c none 0 q cap w (Nat.le_refl _) (by simp [maxLen]) (by show sl.length ≤ cap; omega) hmax ((Ctx.left (F := G) (Φ := fun M w => Φ M w ∧ Sl M w q sl) (gr cx4)).weak fun M w h => ⟨h.1, Sl.nil, h.2⟩)
    unfold outV at this
    simp only at this
    rw [hsll] at this
    exact this

end Go.Proofs.Ytifgijoeckoojaa
