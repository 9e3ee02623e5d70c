/-
  The walk of small.
-/
import Derived.Test.YticgmbmghnikeaaVf
import Derived.Test.YticgmbmghnikeaaBq
set_option linter.unusedVariables false
set_option linter.unusedSimpArgs false
namespace Go.Proofs.Yticgmbmghnikeaa
open Go.Vc

theorem Len_q {w : World} {b : Nat} {n : Int} (h : w.cell? ⟨b, 25, none⟩ = some (.int .i64 n)) : Calls Try.prog F.channel_Channel_Len #[.pointer (some ⟨b, 0, none⟩)] w fun e w' => e = .returned (.int .i64 n) ∧ w' = w :=
  (Qchannel_Channel_Len_run b 0 w (fun u w' => u = .int .i64 n ∧ w' = w) ⟨n, by rw [Nat.zero_add]; exact h, rfl, rfl⟩).mono fun e w' ⟨v, h1, h2, h3⟩ => ⟨by rw [h1, h2], h3⟩

theorem Free_q {w : World} {b : Nat} {n : Int} (h : w.cell? ⟨b, 25, none⟩ = some (.int .i64 n)) (h0 : 0 ≤ n) (h4 : n ≤ 4) : Calls Try.prog F.channel_Channel_Free #[.pointer (some ⟨b, 0, none⟩)] w fun e w' => e = .returned (.int .i64 (4 - n)) ∧ w' = w :=
  (Qchannel_Channel_Free_run b 0 w (fun u w' => u = .int .i64 (4 - n) ∧ w' = w) ⟨n, by rw [Nat.zero_add]; exact h, by unfold I64; omega, rfl, rfl⟩).mono fun e w' ⟨v, h1, h2, h3⟩ => ⟨by rw [h1, h2], h3⟩

theorem Sent_q {w : World} {b : Nat} {n : Int} (h : w.cell? ⟨b, 26, none⟩ = some (.int .i64 n)) : Calls Try.prog F.channel_Channel_Sent #[.pointer (some ⟨b, 0, none⟩)] w fun e w' => e = .returned (.int .i64 n) ∧ w' = w :=
  (Qchannel_Channel_Sent_run b 0 w (fun u w' => u = .int .i64 n ∧ w' = w) ⟨n, by rw [Nat.zero_add]; exact h, rfl, rfl⟩).mono fun e w' ⟨v, h1, h2, h3⟩ => ⟨by rw [h1, h2], h3⟩

abbrev markM (n : Int) : MsgD := ⟨2, 0, 0, 0, n, []⟩
theorem mark_g (n : Int) : Gives Try.prog F.erratalaw36_mark #[.int .i64 n] ((markM n).v none 0) :=
  gives_of (Berratalaw36_mark_run n) fun W R Φ _ => fun _ w G c => ⟨rfl, c.left⟩

theorem mark_right (i : Nat) (h : i ≤ 4) : rightM (markM i) = true := by
  match i, h with
  | 0, _ => rfl
  | 1, _ => rfl
  | 2, _ => rfl
  | 3, _ => rfl
  | 4, _ => rfl

theorem mark_ok (i : Nat) (h : i ≤ 4) : (markM i).Ok := ⟨by show I64 2; unfold I64; omega, by show I64 0; unfold I64; omega, by show I64 0; unfold I64; omega, by show I64 0; unfold I64; omega, by show I64 i; unfold I64; omega⟩

def marks (i : Nat) : List MsgD := (List.range i).map fun k => markM (k : Nat)
theorem marks_len (i : Nat) : (marks i).length = i := by simp [marks]
theorem marks_succ (i : Nat) : marks (i + 1) = marks i ++ [markM (i : Nat)] := by unfold marks; rw [List.range_succ, List.map_append]; rfl

/-- send, with what stays known of the channel -/
theorem Send_in {W w : World} {S : List Own} {Φ : PW} [Stable Φ] {b : Nat} {cs : List Value} {m : MsgD} {p : Option Addr} {cap : Nat} {q : List MsgD} {first sent : Nat} (c : Ctx W w (.blk b cs 53 :: S) (fun M w => Φ M w ∧ ChanS cs q first M w)) (hc : ChanC cs q first sent)
    (hm : ∀ M w, Φ M w → Sl M w p m.deltas) (hok : m.Ok) (hr : rightM m = true) (hq : q.length < 4) (hs : sent < 1000000) {K : Ending → World → Prop}
    (hk : ∀ cs' w', ChanC cs' (q ++ [m]) first (sent + 1) → Ctx W w' (.blk b cs' 53 :: S) (fun M w => Φ M w ∧ ChanS cs' (q ++ [m]) first M w) → K (.returned (.int .i64 0)) w') :
    Calls Try.prog F.channel_Channel_Send #[.pointer (some ⟨b, 0, none⟩), m.v p cap] w K := by
  have hsm := right_small hr
  refine Send_ok (Φ := fun M w => Φ M w ∧ ChanS cs q first M w) c hc (fun M w h => hm M w h.1) (by have := hsm.1; omega) hr hq hs fun p' cap' w' h1 h2 cx => ?_
  exact hk _ w' (hc.send hq rfl hsm) (cx.weak fun M w h => ⟨h.1.1, h.1.2.send hc.len hq hc.lt4 (rep_msg hok h1 h2 h.2)⟩)

theorem Take_in {W w : World} {S : List Own} {Φ : PW} [Stable Φ] {b : Nat} {cs : List Value} {first sent : Nat} {m : MsgD} {q : List MsgD} (c : Ctx W w (.blk b cs 53 :: S) (fun M w => Φ M w ∧ ChanS cs (m :: q) first M w)) (hc : ChanC cs (m :: q) first sent) {K : Ending → World → Prop}
    (hk : ∀ p cap ds rows w' cs', ChanC cs' q ((first + 1) % 4) sent → Fresh ds rows m.deltas → Ctx W w' (.blk b cs' 53 :: (.buf p m.deltas.length cap ds 56 3 :: rows) ++ S) (fun M w => Φ M w ∧ ChanS cs' q ((first + 1) % 4) M w) → K (.returned (.tuple #[m.v p cap, .int .i64 0])) w') :
    Calls Try.prog F.channel_Channel_Take #[.pointer (some ⟨b, 0, none⟩)] w K := by
  refine Take_some (Φ := fun M w => Φ M w ∧ ChanS cs (m :: q) first M w) c hc (fun M w h => h.2) fun p cap ds rows w' hf cx => ?_
  have hcnt := hc.count
  exact hk p cap ds rows w' _ hc.take hf (cx.weak fun M w h => ⟨h.1, h.2.take (by simp only [List.length_cons] at hcnt; omega) hc.lt4⟩)

set_option maxHeartbeats 1000000 in
theorem small_g : Gives Try.prog F.erratalaw36_small #[] (.bool true) := by
  refine gives_of Berratalaw36_small_run fun W R Φ _ => ?_
  refine fun w G cx => New_use cx fun b w cx => ⟨some ⟨b, 0, none⟩, rfl, .blk b chan0 53 :: R, Φ, inferInstance, cx, Br.intro (fun h => by cases h) (fun _ => ?_)⟩
  refine exI_mk (fun n R' Φ' k => ∃ (i : Nat) (cs : List Value), n = i ∧ i ≤ 4 ∧ R' = .blk b cs 53 :: R ∧ Φ' = (fun M w => Φ M w ∧ ChanS cs (marks i) 0 M w) ∧ k = 4 - i ∧ ChanC cs (marks i) 0 i)
    ⟨⟨.blk b chan0 53 :: R, fun M w => Φ M w ∧ ChanS chan0 (marks 0) 0 M w, _, inferInstance, fun w G c => c.weak fun M w h => ⟨h, chan0_s M w⟩, 0, chan0, rfl, Nat.zero_le _, rfl, rfl, rfl, chan0_c⟩, ?_⟩
  rintro n R1 Φ1 k _ ⟨i, cs, rfl, hi, rfl, rfl, rfl, hc⟩
  refine Br.intro (fun hlt => ?_) (fun hge => ?_)
  · have hlt : i < 4 := by have := of_decide_eq_true hlt; omega
    refine fun w G cx => (mark_g i).use cx fun w cx => ⟨_, _, _, _, _, none, _, 0, rfl, .blk b cs 53 :: R, fun M w => Φ M w ∧ ChanS cs (marks i) 0 M w, inferInstance, cx, fun w G cx => ?_⟩
    refine Send_in (m := markM i) cx hc (fun M w h => Sl.nil) (mark_ok i hi) (mark_right i hi) (by rw [marks_len]; exact hlt) (by omega) fun cs' w hc' cx => ⟨0, rfl, .blk b cs' 53 :: R, fun M w => Φ M w ∧ ChanS cs' (marks i ++ [markM i]) 0 M w, inferInstance, cx, Br.intro (fun h => by simp at h) (fun _ => ?_)⟩
    rw [← marks_succ] at hc'
    exact ⟨by unfold I64; omega, .blk b cs' 53 :: R, fun M w => Φ M w ∧ ChanS cs' (marks (i + 1)) 0 M w, 4 - (i + 1), inferInstance, fun w G cx => by rw [marks_succ]; exact cx, ⟨i + 1, cs', rfl, hlt, rfl, rfl, rfl, hc'⟩, by omega⟩
  · have hge : i = 4 := by have := of_decide_eq_false hge; omega
    subst hge
    refine fun w G cx => (mark_g 4).use cx fun w cx => ⟨_, _, _, _, _, none, _, 0, rfl, .blk b cs 53 :: R, fun M w => Φ M w ∧ ChanS cs (marks 4) 0 M w, inferInstance, cx, fun w G cx => ?_⟩
    refine Send_full (Φ := fun M w => Φ M w ∧ ChanS cs (marks 4) 0 M w) (m := markM 4) cx hc (fun M w h => Sl.nil) (by simp) rfl (marks_len 4) fun w cx => ⟨27, rfl, .blk b cs 53 :: R, fun M w => Φ M w ∧ ChanS cs (marks 4) 0 M w, inferInstance, cx, fun w G cx => ?_⟩
    refine Take_in (m := markM 0) (q := [markM 1, markM 2, markM 3]) cx hc fun p cap ds rows w cs1 hc1 hf cx => ⟨_, _, _, _, _, p, _, cap, _, rfl, .blk b cs1 53 :: R, fun M w => Φ M w ∧ ChanS cs1 [markM 1, markM 2, markM 3] 1 M w, inferInstance, ?_, fun _ w G cx => ?_⟩
    · exact cx.sub (List.Sublist.cons_cons _ (List.Sublist.cons _ (List.sublist_append_right rows _)))
    refine (mark_g 4).use cx fun w cx => ⟨_, _, _, _, _, none, _, 0, rfl, .blk b cs1 53 :: R, fun M w => Φ M w ∧ ChanS cs1 [markM 1, markM 2, markM 3] 1 M w, inferInstance, cx, fun w G cx => ?_⟩
    refine Send_in (m := markM 4) cx hc1 (fun M w h => Sl.nil) (mark_ok 4 (by omega)) rfl (by simp) (by omega) fun cs' w hc' cx => ⟨0, rfl, .blk b cs' 53 :: R, fun M w => Φ M w ∧ ChanS cs' ([markM 1, markM 2, markM 3] ++ [markM 4]) 1 M w, inferInstance, cx, fun w G cx => ?_⟩
    have h25 : w.cell? ⟨b, 25, none⟩ = some (.int .i64 4) := cx.get 0 rfl hc'.c25
    have h26 : w.cell? ⟨b, 26, none⟩ = some (.int .i64 5) := cx.get 0 rfl hc'.c26
    exact ⟨4, fun _ w' e => by subst e; exact Len_q h25, 0, fun _ w' e => by subst e; exact Free_q h25 (by omega) (by omega), 5, fun _ w' e => by subst e; exact Sent_q h26, fun w G cx => ⟨rfl, (cx.left.drop1).fst⟩⟩

end Go.Proofs.Yticgmbmghnikeaa
