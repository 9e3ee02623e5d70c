/-
  Channel: what is owned and laid aside during Send and Clone; the methods, each in one contract.
-/
import Derived.Test.YticgmbmghnikeaaOb
set_option linter.unusedVariables false
set_option linter.unusedSimpArgs false
namespace Go.Proofs.Yticgmbmghnikeaa
open Go.Vc

section
variable {P : Program} {W w : World} {S S' T G Q : List Own} {Φ Ψ : PW}


theorem Fresh.within {ds : List Value} {rows : List Own} {l : List DeltaD} {p : Option Addr} {n cap : Nat} {M : List Nat} (hf : Fresh ds rows l) (h : Aside W Q Φ M w) (hm : Own.buf p n cap ds 56 3 ∈ Q) (hr : ∀ o ∈ rows, o ∈ Q) : Sl M w p l := by
  refine Parked.sl (α := DeltaD) (D := []) (n := n) (cap := cap) (t := 56) (cs := ds) (h.parked hm) ⟨hf.len, fun j hj => ?_⟩
  obtain ⟨q, c, vc, h1, h2, h3, h4, h5, h6, h7⟩ := hf.go j hj
  rw [show (Gv.ty DeltaD).size = 3 from rfl, h1]
  exact rep_delta h2 h3 h4 h5 (Parked.sl (α := ValD) (D := []) (h.parked (hr _ h6)) (h7 _ _))

/-- what a copy leaves while Q is laid aside -/
theorem GivesCopy.useA [Stable Φ] {f : FuncId} {args : Array Value} {l : List DeltaD} {mk : Value → Value} (h : GivesCopy (Aside W Q Φ) P f args l mk) (c : Ctx W w S (Aside W Q Φ)) {K : Ending → World → Prop}
    (hk : ∀ p cap w', l.length ≤ cap → cap ≤ maxLen → Ctx W w' S (Aside W Q (fun M w => Φ M w ∧ Sl M w p l)) → K (.returned (mk (.slice p l.length cap))) w') : Calls P f args w K :=
  h.use c fun p cap cs rows w' hf c' => by
    have c1 := c'.unaside
    have c2 : Ctx W w' (.buf p l.length cap cs 56 3 :: rows ++ (Q ++ S)) Φ := c1.perm (by
      have : (Q ++ ((Own.buf p l.length cap cs 56 3 :: rows) ++ S)).Perm ((Own.buf p l.length cap cs 56 3 :: rows) ++ (Q ++ S)) := by
        rw [← List.append_assoc, ← List.append_assoc]
        exact List.Perm.append_right S List.perm_append_comm
      exact this)
    obtain ⟨c3, h1, _, h2, h3⟩ := hf.sl c2
    exact hk p cap w' h2 h3 (c3.add h1).aside

theorem Head_use [Stable Φ] {b : Nat} {cs : List Value} {q : List MsgD} {first sent : Nat} (c : Ctx W w (.blk b cs 53 :: S) Φ) (hc : ChanC cs q first sent) (hS : ∀ M w, Φ M w → ChanS cs q first M w) {K : Ending → World → Prop}
    (hk : ∀ p cap ds rows w', Fresh ds rows (q.headD msg0).deltas → Ctx W w' (.buf p (q.headD msg0).deltas.length cap ds 56 3 :: rows ++ .blk b cs 53 :: S) Φ → K (.returned (.tuple #[(q.headD msg0).v p cap, .bool (decide (0 < q.length))])) w') :
    Calls Try.prog F.channel_Channel_Head #[.pointer (some ⟨b, 0, none⟩)] w K := by
  cases q with
  | nil => exact Head_none c hc fun w' cx => hk none 0 [] [] w' Fresh.nil (cx.nobuf 56 3)
  | cons m q => exact Head_some c hc hS fun p cap ds rows w' hf cx => hk p cap ds rows w' hf (cx.perm List.perm_middle.symm)

theorem Take_use [Stable Φ] {b : Nat} {cs : List Value} {q : List MsgD} {first sent : Nat} (c : Ctx W w (.blk b cs 53 :: S) (fun M w => Φ M w ∧ ChanS cs q first M w)) (hc : ChanC cs q first sent) {K : Ending → World → Prop}
    (hk : ∀ p cap ds rows w' cs' first' e, decide (e = 0) = decide (0 < q.length) → ChanC cs' q.tail first' sent → Fresh ds rows (q.headD msg0).deltas → Ctx W w' (.buf p (q.headD msg0).deltas.length cap ds 56 3 :: rows ++ .blk b cs' 53 :: S) (fun M w => Φ M w ∧ ChanS cs' q.tail first' M w) → K (.returned (.tuple #[(q.headD msg0).v p cap, .int .i64 e])) w') :
    Calls Try.prog F.channel_Channel_Take #[.pointer (some ⟨b, 0, none⟩)] w K := by
  cases q with
  | nil => exact Take_none c hc fun w' cx => hk none 0 [] [] w' cs first 4 (by simp) hc Fresh.nil (cx.nobuf 56 3)
  | cons m q => exact Take_in c hc fun p cap ds rows w' cs' hc' hf cx => hk p cap ds rows w' cs' _ 0 (by simp) hc' hf (cx.perm List.perm_middle.symm)

set_option maxHeartbeats 1000000 in
theorem Send_okA [Stable Φ] {b : Nat} {cs : List Value} {m : MsgD} {p : Option Addr} {cap : Nat} {q : List MsgD} {first sent : Nat} (c : Ctx W w (.blk b cs 53 :: S) (Aside W Q Φ)) (hc : ChanC cs q first sent) (hm : ∀ M w, Aside W Q Φ M w → Sl M w p m.deltas) (hr : rightM m = true) (hq : q.length < 4)
    (hs : sent < 1000000) {K : Ending → World → Prop}
    (hk : ∀ p' cap' w', m.deltas.length ≤ cap' → cap' ≤ maxLen → Ctx W w' (.blk b (sentTo cs first q.length sent (m.cells p' cap')) 53 :: S) (Aside W Q (fun M w => Φ M w ∧ Sl M w p' m.deltas)) → K (.returned (.int .i64 0)) w') :
    Calls Try.prog F.channel_Channel_Send #[.pointer (some ⟨b, 0, none⟩), m.v p cap] w K := by
  have hf := hc.lt4
  have hl := hc.len
  have hsm := right_small hr
  have hix : (first + q.length) % 4 < 4 := Nat.mod_lt _ (by omega)
  have htm : ((first : Int) + (q.length : Int)).tmod 4 = ((first + q.length) % 4 : Nat) := rfl
  have held : ∀ {ds : List Value} (h24 : ds[24]? = some (.int .i64 first)) (h25 : ds[25]? = some (.int .i64 q.length)) {w : World} {G : List Own} {Ψ : PW} [Stable Ψ], Ctx W w (.blk b ds 53 :: S ++ G) Ψ → Ctx W w (S ++ G) (fun M w => RowIn b 24 [.int .i64 first, .int .i64 q.length] M w) := by
    intro ds h24 h25 w G Ψ _ cx
    exact cx.park.weak fun M w h => h.2.rowIn fun j hj => by
      match j, hj with
      | 0, _ => exact h24
      | 1, _ => exact h25
  refine (Bchannel_Channel_Send_run b 0 m.kind m.node m.inp m.bucket m.n p m.deltas.length cap (J := fun u w' => K (.returned u) w') c ?_).mono fun e w' ⟨v, he, hj⟩ => by rw [he]; exact hj
  refine fun _ w G cx => (Right_in p cap m hm (by have := hsm.1; omega)).use cx fun w cx => ⟨_, rfl, .blk b cs 53 :: S, Aside W Q Φ, inferInstance, cx, Br.intro (fun h => by rw [hr] at h; cases h) (fun h => fun w G cx => ⟨_, cx.get 0 rfl (by rw [Nat.zero_add]; exact hc.c25), Br.intro (fun h => by simp at h; omega) (fun h => ?_)⟩)⟩
  refine ⟨S, fun M w => RowIn b 24 [.int .i64 first, .int .i64 q.length] M w, inferInstance, fun w G cx => held hc.c24 hc.c25 cx, (first : Int), fun w G cx => ⟨_, ?_, rfl⟩, (q.length : Int), fun w G cx => ⟨_, ?_, rfl⟩, by unfold I64; omega, by omega, fun w G cx => ?_⟩
  · have := cx.phi.2.1 0 (by simp)
    rw [Nat.zero_add]
    exact this
  · have := cx.phi.2.1 1 (by simp)
    rw [Nat.zero_add]
    exact this
  refine (clone_copy p cap m hm hsm.1 hsm.2).useA cx fun p' cap' w hc1 hc2 cx => ⟨_, _, _, _, _, p', _, cap', rfl, .blk b cs 53 :: S, Aside W Q (fun M w => Φ M w ∧ Sl M w p' m.deltas), inferInstance, cx, fun w G cx => held hc.c24 hc.c25 cx, by rw [htm]; omega, fun w G cx => ⟨cx.can 0 rfl (by rw [htm, Int.toNat_natCast]; omega), fun w' hw' => ?_⟩⟩
  rw [htm, Int.toNat_natCast, Nat.zero_add] at hw'
  have cx1 := cx.puts 0 hw' rfl
  have g24 : (setL cs ((first + q.length) % 4 * 6) (m.cells p' cap'))[24]? = some (.int .i64 first) := by rw [setL_get _ _ _ _ (by simp only [List.length_cons, List.length_nil]; omega)]; exact hc.c24
  have g25 : (setL cs ((first + q.length) % 4 * 6) (m.cells p' cap'))[25]? = some (.int .i64 q.length) := by rw [setL_get _ _ _ _ (by simp only [List.length_cons, List.length_nil]; omega)]; exact hc.c25
  refine ⟨.blk b (setL cs ((first + q.length) % 4 * 6) (m.cells p' cap')) 53 :: S, Aside W Q (fun M w => Φ M w ∧ Sl M w p' m.deltas), inferInstance, cx1, fun w G cx => held g24 g25 cx, fun w G cx => ⟨(q.length : Int), cx.get 0 rfl (by rw [Nat.zero_add]; exact g25), by unfold I64; omega, fun w G cx => ⟨cx.can 0 rfl (by rw [setL_len]; omega), fun w' hw' => ?_⟩⟩⟩
  rw [Nat.zero_add] at hw'
  have cx1 := cx.put 0 hw' rfl
  have e1 : (q.length : Int) + 1 = (q.length + 1 : Nat) := by omega
  rw [e1] at cx1
  refine ⟨.blk b ((setL cs ((first + q.length) % 4 * 6) (m.cells p' cap')).set 25 (.int .i64 (q.length + 1 : Nat))) 53 :: S, Aside W Q (fun M w => Φ M w ∧ Sl M w p' m.deltas), inferInstance, cx1, fun w G cx => ⟨(sent : Int), cx.get 0 rfl ?_, by unfold I64; omega, fun w G cx => ⟨cx.can 0 rfl ?_, fun w' hw' => ?_⟩⟩⟩
  · rw [Nat.zero_add, List.getElem?_set_ne (by omega), setL_get _ _ _ _ (by simp only [List.length_cons, List.length_nil]; omega)]
    exact hc.c26
  · rw [List.length_set, setL_len]; omega
  rw [Nat.zero_add] at hw'
  have cx1 := cx.put 0 hw' rfl
  have e2 : (sent : Int) + 1 = (sent + 1 : Nat) := by omega
  rw [e2] at cx1
  exact ⟨.blk b (sentTo cs first q.length sent (m.cells p' cap')) 53 :: S, Aside W Q (fun M w => Φ M w ∧ Sl M w p' m.deltas), inferInstance, cx1, fun w G cx => hk p' cap' w hc1 hc2 cx.left⟩


/-- what Send answers -/
def SendR (m : MsgD) (q : List MsgD) (sent : Nat) (e : Int) (q' : List MsgD) (n' : Nat) : Prop :=
  (rightM m = false ∧ e = 1 ∧ q' = q ∧ n' = sent) ∨ (rightM m = true ∧ q.length = 4 ∧ e = 27 ∧ q' = q ∧ n' = sent) ∨ (rightM m = true ∧ q.length < 4 ∧ e = 0 ∧ q' = q ++ [m] ∧ n' = sent + 1)

set_option maxHeartbeats 1000000 in
theorem Send_use [Stable Φ] {b : Nat} {cs : List Value} {m : MsgD} {p : Option Addr} {cap : Nat} {q : List MsgD} {first sent : Nat} (c : Ctx W w (.blk b cs 53 :: S) (Aside W Q (fun M w => Φ M w ∧ ChanS cs q first M w))) (hc : ChanC cs q first sent)
    (hm : ∀ M w, Aside W Q (fun M w => Φ M w ∧ ChanS cs q first M w) M w → Sl M w p m.deltas) (hok : m.Ok) (hlen : m.deltas.length ≤ 9223372036854775807) (hs : sent < 1000000) {K : Ending → World → Prop}
    (hk : ∀ e cs' q' n' w', SendR m q sent e q' n' → ChanC cs' q' first n' → Ctx W w' (.blk b cs' 53 :: S) (Aside W Q (fun M w => Φ M w ∧ ChanS cs' q' first M w)) → K (.returned (.int .i64 e)) w') :
    Calls Try.prog F.channel_Channel_Send #[.pointer (some ⟨b, 0, none⟩), m.v p cap] w K := by
  have hst1 : Stable (fun M w => Φ M w ∧ ChanS cs q first M w) := inferInstance
  cases hr : rightM m with
  | false => exact Send_arg c hm hlen hr fun w' cx => hk 1 cs q sent w' (.inl ⟨hr, rfl, rfl, rfl⟩) hc cx
  | true =>
  have hcnt := hc.count
  by_cases hq4 : q.length = 4
  · exact Send_full c hc hm hlen hr hq4 fun w' cx => hk 27 cs q sent w' (.inr (.inl ⟨hr, hq4, rfl, rfl, rfl⟩)) hc cx
  have hq : q.length < 4 := by omega
  refine Send_okA c hc hm hr hq hs fun p' cap' w' h1 h2 cx => hk 0 (sentTo cs first q.length sent (m.cells p' cap')) (q ++ [m]) (sent + 1) w' (.inr (.inr ⟨hr, hq, rfl, rfl, rfl⟩)) (hc.send hq rfl (right_small hr)) ?_
  refine cx.weak fun M w h => h.imp fun M w h => ⟨h.1.1, h.1.2.send hc.len hq hc.lt4 (rep_msg hok h1 h2 h.2)⟩

end

end Go.Proofs.Yticgmbmghnikeaa
