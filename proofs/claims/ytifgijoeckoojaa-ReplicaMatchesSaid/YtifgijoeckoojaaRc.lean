/-
  Replica: all, Tick, sound, New.
-/
import Derived.Test.YtifgijoeckoojaaRb
set_option linter.unusedVariables false
set_option linter.unusedSimpArgs false
namespace Go.Proofs.Ytifgijoeckoojaa
open Go.Vc

/-! ### results -/
abbrev outV (o : OutR) (p1 : Option Addr) (c1 : Nat) (p2 : Option Addr) (c2 : Nat) : Value := .agg #[.bool o.save, .int .i64 o.term, .int .i64 o.vote, .int .i64 o.src, .slice p1 o.recs.length c1, .slice p2 o.send.length c2]

def OPhi (Φ : PW) (q1 : Option Addr) (recs : List RecD) (q2 : Option Addr) (send : List MsgR) : PW := fun M w => Φ M w ∧ Sl M w q1 recs ∧ Sl M w q2 send
instance ophi_stable (Φ : PW) [Stable Φ] (q1 : Option Addr) (recs : List RecD) (q2 : Option Addr) (send : List MsgR) : Stable (OPhi Φ q1 recs q2 send) :=
  have h2 : Stable (fun M w => Sl M w q1 recs ∧ Sl M w q2 send) := instStableAnd (fun M w => Sl M w q1 recs) (fun M w => Sl M w q2 send)
  instStableAnd Φ (fun M w => Sl M w q1 recs ∧ Sl M w q2 send)

/-- what follows a call that turns the replica into r', with the result o -/
def OutK (W : World) (S : List Own) (Φ : PW) (b : Nat) (r' : Rep) (o : OutR) (K : Value → World → Prop) : Prop :=
  ∀ p' c' q1 c1 q2 c2 w', o.recs.length ≤ c1 → c1 ≤ maxLen → o.send.length ≤ c2 → c2 ≤ maxLen → Ctx W w' (repO b r' p' c' ++ S) (OPhi Φ q1 o.recs q2 o.send) → K (outV o q1 c1 q2 c2) w'

theorem OutK.zero {W w : World} {S : List Own} {Φ : PW} {b : Nat} {r' : Rep} {K : Value → World → Prop} {p : Option Addr} {c : Nat} (h : OutK W S Φ b r' out0 K) (cx : Ctx W w (repO b r' p c ++ S) Φ) : K (outV out0 none 0 none 0) w :=
  h p c none 0 none 0 w (Nat.le_refl _) (by simp [maxLen]) (Nat.le_refl _) (by simp [maxLen]) (cx.weak fun M w h => ⟨h, Sl.nil, Sl.nil⟩)

theorem OutK.sent {W w : World} {S : List Own} {Φ : PW} {b : Nat} {r' : Rep} {K : Value → World → Prop} {p : Option Addr} {c : Nat} {l : List MsgR} {q : Option Addr} {cap : Nat} (h : OutK W S Φ b r' (outS l) K) (h1 : l.length ≤ cap) (h2 : cap ≤ maxLen)
    (cx : Ctx W w (repO b r' p c ++ S) (fun M w => Φ M w ∧ Sl M w q l)) : K (outV (outS l) none 0 q cap) w :=
  h p c none 0 q cap w (Nat.le_refl _) (by simp [maxLen]) h1 h2 (cx.weak fun M w h => ⟨h.1, Sl.nil, h.2⟩)

/-! ### the cells of a replica that is written -/
theorem set_vote {r : Rep} {p : Option Addr} {c i : Nat} (x : Bool) (h : i < 3) : (r.cells p c).set (6 + i) (.bool x) = { r with votes := put r.votes i x }.cells p c := by
  match i, h with
  | 0, _ => rfl
  | 1, _ => rfl
  | 2, _ => rfl
theorem set_next {r : Rep} {p : Option Addr} {c i : Nat} (x : Nat) (h : i < 3) : (r.cells p c).set (9 + i) (.int .i64 x) = { r with next := put r.next i x }.cells p c := by
  match i, h with
  | 0, _ => rfl
  | 1, _ => rfl
  | 2, _ => rfl
theorem set_mat {r : Rep} {p : Option Addr} {c i : Nat} (x : Nat) (h : i < 3) : (r.cells p c).set (12 + i) (.int .i64 x) = { r with mat := put r.mat i x }.cells p c := by
  match i, h with
  | 0, _ => rfl
  | 1, _ => rfl
  | 2, _ => rfl

theorem put_rep {W w w' : World} {S : List Own} {Φ : PW} [Stable Φ] {b : Nat} {r : Rep} {p : Option Addr} {c : Nat} (cx : Ctx W w (repO b r p c ++ S) Φ) {i : Nat} {v : Value} (e : w' = w.setCell ⟨b, i, none⟩ v) (r' : Rep) (hc : (r.cells p c).set i v = r'.cells p c) (hl : r'.log = r.log) :
    Ctx W w' (repO b r' p c ++ S) Φ := by
  show Ctx W w' (.blk b (r'.cells p c) 76 :: .buf p r'.log.length c (recCells r'.log) 55 2 :: S) Φ
  rw [← hc, hl]
  exact cx.put 0 e rfl

theorem puts_rep {W w w' : World} {S : List Own} {Φ : PW} [Stable Φ] {b : Nat} {r : Rep} {p : Option Addr} {c : Nat} (cx : Ctx W w (repO b r p c ++ S) Φ) {i : Nat} {vs : List Value} (e : w' = w.setCells b i vs) (r' : Rep) (hc : setL (r.cells p c) i vs = r'.cells p c) (hl : r'.log = r.log) :
    Ctx W w' (repO b r' p c ++ S) Φ := by
  show Ctx W w' (.blk b (r'.cells p c) 76 :: .buf p r'.log.length c (recCells r'.log) 55 2 :: S) Φ
  rw [← hc, hl]
  exact cx.puts 0 e rfl

theorem can_rep {W w : World} {S : List Own} {Φ : PW} {b : Nat} {r : Rep} {p : Option Addr} {c : Nat} (cx : Ctx W w (repO b r p c ++ S) Φ) {i n : Nat} (h : i + n ≤ 15) : CanWrite w b i n := cx.can 0 rfl h

/-! ### all -/
theorem others_len (id : Nat) : (othersOf id).length = 2 := by unfold othersOf; split; rfl; split <;> rfl
theorem others_lt {id : Nat} : ∀ x ∈ othersOf id, x < 3 ∧ (id ≤ 2 → x ≠ id) := by
  intro x hx
  unfold othersOf at hx
  split at hx
  · simp at hx; omega
  · split at hx <;> simp at hx <;> omega

theorem Rep.Ok.termAt {r : Rep} (h : r.Ok) (k : Nat) : 0 ≤ termAt r.log k ∧ Go.Proofs.Ytifgijoeckoojaa.termAt r.log k ≤ r.term := by
  have h0 := h.term0
  cases k with
  | zero => exact ⟨Int.le_refl _, h0⟩
  | succ k =>
    by_cases hk : k < r.log.length
    · rw [termAt_succ hk]
      have h1 := h.log.lo _ (List.getElem_mem hk)
      have h2 := h.log.hi _ (List.getElem_mem hk)
      omega
    · simp only [Go.Proofs.Ytifgijoeckoojaa.termAt, List.getElem?_eq_none (Nat.not_lt.1 hk)]
      omega

theorem Rep.Ok.fit {r : Rep} (h : r.Ok) (hr : r.role = 2) {i : Nat} (hi : i < 3) : Fit r i := ⟨(h.next hr i).1, (h.next hr i).2.1, h.len, hi⟩

theorem entries_ok {r : Rep} (h : r.Ok) {n : Nat} (hf : Fit r n) : (entriesOf r n).Ok := by
  have h1 := h.termAt (r.next n - 1)
  have h2 := h.id
  have h3 := h.term0
  have h4 := h.termM
  have h5 := h.commit
  have h6 := h.len
  have h7 := hf.hi
  have h8 := hf.to
  have e : ∀ {x : Int}, -1 ≤ x → x ≤ 1099511627776 → I64 x := fun h h' => by unfold I64; omega
  unfold entriesOf
  exact ⟨e (by simp) (by simp), e (by simp only; omega) (by simp only; omega), e (by simp only; omega) (by simp only; omega), e (by simp only; omega) (by simp only; omega), e (by simp only; omega) (by simp only; omega), e (by simp only; omega) (by simp only; omega), e (by simp only; omega) (by simp only; omega)⟩

theorem recs_max {l : List RecD} {c : Nat} (h : l.length ≤ c) (h2 : c ≤ maxLen) : l.length ≤ maxLen := Nat.le_trans h h2

set_option maxHeartbeats 1000000 in
theorem all_use {W w : World} {S : List Own} {Φ : PW} [Stable Φ] {b : Nat} {r : Rep} {p : Option Addr} {c : Nat} (cx : Ctx W w (repO b r p c ++ S) Φ) (hr : r.Ok) (hf : ∀ i, i < 3 → Fit r i) {K : Ending → World → Prop}
    (hK : ∀ q cap w', (allOf r).length ≤ cap → cap ≤ maxLen → Ctx W w' (repO b r p c ++ S) (fun M w => Φ M w ∧ Sl M w q (allOf r)) → K (.returned (.slice q (allOf r).length cap)) w') :
    Calls Try.prog F.replica_Replica_all #[.pointer (some ⟨b, 0, none⟩)] w K := by
  have hol := others_len r.id
  have hal : (allOf r).length = 2 := by unfold allOf; rw [List.length_map, hol]
  refine (Breplica_Replica_all_run b 0 (J := fun u w' => K (.returned u) w') cx ?_).mono fun e w' ⟨v, he, hj⟩ => by rw [he]; exact hj
  refine fun w G cx => others_use hr.id (gl cx) fun k rest w cx => ⟨some ⟨k, 0, none⟩, 2, 3, rfl, repO b r p c ++ (.blk k ((othersOf r.id).map (fun x : Nat => intv (x : Int)) ++ rest) 3 :: S), Φ, inferInstance, gr (Q := repO b r p c) (T := .blk k ((othersOf r.id).map (fun x : Nat => intv (x : Int)) ++ rest) 3 :: S) (mid cx), ?_⟩
  refine exI_mk (fun q n cap iI R' Φ' m => ∃ (i : Nat) (gs : List Value), iI = i ∧ n = i ∧ i ≤ 2 ∧ R' = repO b r p c ++ (.buf q i cap gs 37 9 :: .blk k ((othersOf r.id).map (fun x : Nat => intv (x : Int)) ++ rest) 3 :: S) ∧ Φ' = (fun M w => Φ M w ∧ Elems M w gs ((allOf r).take i)) ∧ m = 2 - i)
    ⟨⟨_, fun M w => Φ M w ∧ Elems M w [] ((allOf r).take 0), _, inferInstance, fun w G cx => gr (Q := repO b r p c) (T := .buf none 0 0 [] 37 9 :: .blk k ((othersOf r.id).map (fun x : Nat => intv (x : Int)) ++ rest) 3 :: S) (mid ((gl (Q := repO b r p c) (cx.weak (Ψ := fun M w => Φ M w ∧ Elems M w [] ((allOf r).take 0)) fun M w h => ⟨h, by rw [List.take_zero]; exact Elems.nil⟩)).nobuf 37 9)), 0, [], rfl, rfl, Nat.zero_le _, rfl, rfl, rfl⟩, ?_⟩
  rintro q i cap iI R1 Φ1 m _ ⟨_, gs, rfl, rfl, hi, rfl, rfl, rfl⟩
  refine Br.intro (fun hlt => ?_) (fun hge => fun w G cx => ?_)
  · have hlt : i < 2 := by have := of_decide_eq_true hlt; omega
    have hio : i < (othersOf r.id).length := by omega
    obtain ⟨n, hn⟩ : ∃ n, (othersOf r.id)[i] = n := ⟨_, rfl⟩
    have hn3 : n < 3 := hn ▸ (others_lt _ (List.getElem_mem hio)).1
    have hfn := hf n hn3
    have hst : Stable (fun M w => Φ M w ∧ Elems M w gs ((allOf r).take i)) := inferInstance
    refine ⟨by omega, ptrK_intro k 0 rfl fun w G cx => ⟨n, ?_, fun w G cx => ?_⟩⟩
    · rw [Int.toNat_natCast, Nat.zero_add]
      refine cx.get 3 rfl ?_
      rw [List.getElem?_append_left (by rw [List.length_map]; omega), List.getElem?_map, List.getElem?_eq_getElem hio, hn]
      rfl
    refine entries_use (Φ := fun M w => Φ M w ∧ Elems M w gs ((allOf r).take i)) (gl cx) hr.recs n rfl hfn fun q2 cap2 w h1 h2 cx => ?_
    have hst2 : Stable (fun M w => (Φ M w ∧ Elems M w gs ((allOf r).take i)) ∧ Sl M w q2 (entriesOf r n).recs) := inferInstance
    refine ⟨_, _, _, _, _, _, _, _, q2, _, cap2, rfl, repO b r p c ++ (.buf q i cap gs 37 9 :: .blk k ((othersOf r.id).map (fun x : Nat => intv (x : Int)) ++ rest) 3 :: S), fun M w => (Φ M w ∧ Elems M w gs ((allOf r).take i)) ∧ Sl M w q2 (entriesOf r n).recs, hst2, gr cx, fun k2 w G cx => ?_⟩
    have cx1 : Ctx W w (.blk k2 ((entriesOf r n).cells q2 cap2) 37 :: .buf q i cap gs 37 9 :: (repO b r p c ++ (.blk k ((othersOf r.id).map (fun x : Nat => intv (x : Int)) ++ rest) 3 :: (S ++ G)))) (fun M w => (Φ M w ∧ Elems M w gs ((allOf r).take i)) ∧ Sl M w q2 (entriesOf r n).recs) := by
      exact cx.perm (List.Perm.cons _ ((List.Perm.of_eq (List.append_assoc _ _ _)).trans List.perm_middle))
    obtain ⟨p', cap', w', hrun, _, cx'⟩ := Ctx.app1 (P := Try.prog) (ts := 27) (ty := 27) (kb := #[false, false]) (size := 9) (bytes := 88) cx1 (by kernel_rfl) (by omega) rfl rfl (by omega) (by omega)
    have hst3 : Stable (fun M w => Φ M w ∧ Elems M w (gs ++ (entriesOf r n).cells q2 cap2) ((allOf r).take (i + 1))) := inferInstance
    refine ⟨p', i + 1, cap', w', hrun, repO b r p c ++ (.buf p' (i + 1) cap' (gs ++ (entriesOf r n).cells q2 cap2) 37 9 :: .blk k ((othersOf r.id).map (fun x : Nat => intv (x : Int)) ++ rest) 3 :: S), fun M w => Φ M w ∧ Elems M w (gs ++ (entriesOf r n).cells q2 cap2) ((allOf r).take (i + 1)), hst3, gr (mid ((cx'.weak fun M w h => ⟨h.1.1, ?_⟩))), by unfold I64; omega, _, _, 2 - (i + 1), hst3, fun w G cx => cx, ⟨i + 1, _, by omega, rfl, by omega, rfl, rfl, rfl⟩, by omega⟩
    have : (allOf r).take (i + 1) = (allOf r).take i ++ [entriesOf r n] := by
      rw [List.take_succ_eq_append_getElem (by omega)]
      unfold allOf
      rw [List.getElem_map, hn]
    rw [this]
    exact h.1.2.snoc (rep_msg (entries_ok hr hfn) h1 h2 h.2)
  · have hge : i = 2 := by have := of_decide_eq_false hge; omega
    subst hge
    have htk : (allOf r).take 2 = allOf r := by rw [← hal, List.take_length]
    have cx1 := front (gl cx)
    have h := cx1.phi.2
    rw [htk] at h
    have cx2 : Ctx W w (.buf q 2 cap gs 37 9 :: (repO b r p c ++ (.blk k ((othersOf r.id).map (fun x : Nat => intv (x : Int)) ++ rest) 3 :: S ++ G))) Φ := cx1.fst
    obtain ⟨cx3, hs, _, hcap, hmax⟩ := Ctx.freeze (α := MsgR) cx2 h
    have cx4 := (front (cx3.add (Ψ := fun M w => Sl M w q (allOf r)) hs)).drop1
    have := hK q cap w (by rw [hal]; exact hcap) hmax (Ctx.left (F := G) (Φ := fun M w => Φ M w ∧ Sl M w q (allOf r)) (gr cx4))
    rw [hal] at this
    exact this

end Go.Proofs.Ytifgijoeckoojaa
