/-
  For every input erratalaw36.ChannelTells returns true, does not panic, comes to an end, and leaves what came in as it was; the variables that its row lists are as the program's text lays them.
  Conditions: none beyond the given statement's own (ChannelTellsCardSaid).
-/
import Derived.Test.YtfpgbejdlikpgaaGreatDoorCTl9
import Derived.Test.YtfpgbejdlikpgaaGreatDoorCTl6
import Derived.Test.YtfpgbejdlikpgaaGreatDoorCTl8
import Derived.Test.YtfpgbejdlikpgaaGreatDoorCards
import Derived.MakeChecks
import Derived.Stop.LaidErr
import Derived.Lib.LaidTab
import Derived.Test.YtfpgbejdlikpgaaGreatDoorTie
import Derived.SevenTiedAt
import Derived.LaidMore
import Derived.ChangeMaps5
import Derived.Test.YtfpgbejdlikpgaaGreatDoorRows

/-
  channel.Same finds equal messages equal, walked; the reference's New.
-/
section
set_option linter.unusedVariables false
set_option linter.unusedSimpArgs false
namespace Go.Proofs.YtfpgbejdlikpgaaGreatDoor
open Go.Vc


theorem EqV_yes {Φ : PW} [Stable Φ] {p q : Option Addr} {c d : Nat} {l : List ValD} (h1 : ∀ M w, Φ M w → Sl M w p l) (h2 : ∀ M w, Φ M w → Sl M w q l) (hl : l.length ≤ 1000000) :
    GivesIn Φ Tryz.prog F.slices_Equal_api_Value_api_Value #[.slice p l.length c, .slice q l.length d] (.bool true) := by
  refine .there (fun M w x => (h1 M w x).there) fun ht1 => .there (fun M w x => (h2 M w x).there) fun ht2 => ?_
  refine gives_in (Bslices_Equal_api_Value_api_Value_run p l.length c q l.length d) fun W R => Br.intro (fun hne => absurd rfl (of_decide_eq_true hne)) (fun heq => ?_)
  refine exI_mk (fun n R' Φ' k => ∃ i : Nat, n = i ∧ i ≤ l.length ∧ R' = R ∧ Φ' = Φ ∧ k = l.length - i) ⟨⟨R, Φ, _, inferInstance, fun w G cx => cx, 0, rfl, Nat.zero_le _, rfl, rfl, rfl⟩, ?_⟩
  rintro n R1 Φ1 k _ ⟨i, rfl, hi, rfl, rfl, rfl⟩
  refine Br.intro (fun hlt => fun w G cx => ?_) (fun hge => fun w G cx => ⟨rfl, cx.left⟩)
  have hlt : i < l.length := by have := of_decide_eq_true hlt; omega
  obtain ⟨b1, o1, rfl⟩ := ht1 (by omega)
  obtain ⟨b2, o2, rfl⟩ := ht2 (by omega)
  refine ⟨⟨by omega, by omega⟩, ptrK_intro b1 o1 rfl ⟨l[i].kind, l[i].num, l[i].text, by rw [Int.toNat_natCast]; exact sl_val (h1 _ _ cx.phi) hlt, ⟨by omega, by omega⟩, ptrK_intro b2 o2 rfl ⟨l[i].kind, l[i].num, l[i].text, by rw [Int.toNat_natCast]; exact sl_val (h2 _ _ cx.phi) hlt, by kernel_rfl, Br.intro (fun hne => ?_) (fun hs => ⟨by unfold I64; omega, R1, Φ1, l.length - (i + 1), inferInstance, fun w G cx => cx, ⟨i + 1, by omega, hlt, rfl, rfl, rfl⟩, by omega⟩)⟩⟩⟩
  simp at hne
theorem SameRows_yes {Φ : PW} [Stable Φ] {p q : Option Addr} {c d : Nat} {l : List ValD} (h1 : ∀ M w, Φ M w → Sl M w p l) (h2 : ∀ M w, Φ M w → Sl M w q l) (hl : l.length ≤ 1000000) :
    GivesIn Φ Tryz.prog F.value_SameRows #[.slice p l.length c, .slice q l.length d] (.bool true) :=
  gives_in (Bvalue_SameRows_run p l.length c q l.length d) fun W R => fun w G cx => (EqV_yes h1 h2 hl).toB cx fun w G cx => ⟨rfl, cx.left⟩
theorem Same1_yes {Φ : PW} [Stable Φ] {x : DeltaD} {p q : Option Addr} {c d : Nat} (h1 : ∀ M w, Φ M w → Sl M w p x.row) (h2 : ∀ M w, Φ M w → Sl M w q x.row) (hl : x.row.length ≤ 1000000) :
    GivesIn Φ Tryz.prog F.channel_Same_1 #[x.v p c, x.v q d] (.bool true) :=
  gives_in (Bchannel_Same_1_run x.time p x.row.length c x.n x.time q x.row.length d x.n) fun W R => fun _ _ => Br.intro (fun _ => Br.intro (fun _ => fun w G cx => (SameRows_yes h1 h2 hl).toB cx fun w G cx => ⟨rfl, cx.left⟩) (fun h => absurd rfl (of_decide_eq_false h))) (fun h => absurd rfl (of_decide_eq_false h))
theorem EqF_yes {Φ : PW} [Stable Φ] {p q : Option Addr} {c d : Nat} {l : List DeltaD} (h1 : ∀ M w, Φ M w → Sl M w p l) (h2 : ∀ M w, Φ M w → Sl M w q l) (hl : l.length ≤ 1000000) (hr : ∀ x ∈ l, x.row.length ≤ 1000000) :
    GivesIn Φ Tryz.prog F.slices_EqualFunc_api_Delta__api_Delta_api_Delta_api_Delta #[.slice p l.length c, .slice q l.length d, .func (.func F.channel_Same_1) #[] #[]] (.bool true) := by
  refine GivesIn.pinned h1 fun g1 o1 cs1 hp1 => GivesIn.pinned (fun M w h => h2 M w h.1) fun g2 o2 cs2 hp2 => ?_
  obtain ⟨Ψ, hΨ⟩ : ∃ Ψ : PW, Ψ = (fun M w => (Φ M w ∧ Pin g1 o1 cs1 l M w) ∧ Pin g2 o2 cs2 l M w) := ⟨_, rfl⟩
  have stΨ : Stable Ψ := by rw [hΨ]; exact instStableAnd (fun M w => Φ M w ∧ Pin g1 o1 cs1 l M w) (fun M w => Pin g2 o2 cs2 l M w)
  have k1 : ∀ M w, Ψ M w → Pin g1 o1 cs1 l M w := fun M w h => by rw [hΨ] at h; exact h.1.2
  have k2 : ∀ M w, Ψ M w → Pin g2 o2 cs2 l M w := fun M w h => by rw [hΨ] at h; exact h.2
  rw [← hΨ]
  refine gives_in (Bslices_EqualFunc_api_Delta__api_Delta_api_Delta_api_Delta_run p l.length c q l.length d F.channel_Same_1 #[]) fun W R => Br.intro (fun hne => absurd rfl (of_decide_eq_true hne)) (fun heq => ?_)
  refine exI_mk (fun n R' Φ' k => ∃ i : Nat, n = i ∧ i ≤ l.length ∧ R' = R ∧ Φ' = Ψ ∧ k = l.length - i) ⟨⟨R, Ψ, _, stΨ, fun w G cx => cx, 0, rfl, Nat.zero_le _, rfl, rfl, rfl⟩, ?_⟩
  rintro n R1 Φ1 k _ ⟨i, rfl, hi, rfl, rfl, rfl⟩
  refine Br.intro (fun hlt => ?_) (fun hge => fun w G cx => ⟨rfl, cx.left⟩)
  have hlt : i < l.length := by have := of_decide_eq_true hlt; omega
  refine ⟨⟨by omega, by omega⟩, ptrK_intro g1 o1 (hp1 (by omega)) fun w G cx => ?_⟩
  obtain ⟨pa, ca, ea, _, _, _, _, ra⟩ := pin_delta (k1 _ _ cx.phi) hlt
  obtain ⟨pb, cb, eb, _, _, _, _, rb⟩ := pin_delta (k2 _ _ cx.phi) hlt
  refine ⟨l[i].time, pa, l[i].row.length, ca, l[i].n, by rw [Int.toNat_natCast]; exact ra, fun _ => ⟨⟨by omega, by omega⟩, ptrK_intro g2 o2 (hp2 (by omega)) fun w G cx => ⟨l[i].time, pb, l[i].row.length, cb, l[i].n, by rw [Int.toNat_natCast]; exact pin_rowAt (k2 _ _ cx.phi) hlt eb, fun _ w G cx => ⟨by kernel_rfl, ?_⟩⟩⟩⟩
  refine (Same1_yes (Φ := Φ1) (x := l[i]) (p := pa) (q := pb) (c := ca) (d := cb) (fun M w h => pin_row (k1 _ _ h) hlt ea) (fun M w h => pin_row (k2 _ _ h) hlt eb) (hr _ (List.getElem_mem hlt))).toB cx (Br.intro (fun h => by cases h) (fun _ => ⟨by unfold I64; omega, R1, Φ1, l.length - (i + 1), stΨ, fun w G cx => cx, ⟨i + 1, by omega, by omega, rfl, rfl, rfl⟩, by omega⟩))
theorem Same_yes {Φ : PW} [Stable Φ] {m : MsgD} {p q : Option Addr} {c d : Nat} (h1 : ∀ M w, Φ M w → Sl M w p m.deltas) (h2 : ∀ M w, Φ M w → Sl M w q m.deltas) (hl : m.deltas.length ≤ 1000000) (hr : ∀ x ∈ m.deltas, x.row.length ≤ 1000000) :
    GivesIn Φ Tryz.prog F.channel_Same #[m.v p c, m.v q d] (.bool true) := by
  refine gives_in (Bchannel_Same_run m.kind m.node m.inp m.bucket m.n p m.deltas.length c m.kind m.node m.inp m.bucket m.n q m.deltas.length d) fun W R => fun _ _ w G cx => Br.intro (fun _ => fun w G cx => (EqF_yes h1 h2 hl hr).toB cx fun w G cx => ⟨rfl, cx.left⟩) (fun h => ?_)
  simp at h
end Go.Proofs.YtfpgbejdlikpgaaGreatDoor
end

/-
  The reference's channel: New, Take.
-/
section
set_option linter.unusedVariables false
set_option linter.unusedSimpArgs false
namespace Go.Proofs.YtfpgbejdlikpgaaGreatDoor
open Go.Vc


theorem msg_one (M : List Nat) (w : World) (cs : List Value) (x : MsgD) (h : Gv.rep M w cs x) : (cs.all fun u => oneC u) = true := by
  obtain ⟨p, c, rfl, _⟩ := msg_cells h
  rfl
/-- the reference's channel: a list of messages that nobody writes -/
abbrev rcO (b : Nat) (p : Option Addr) (c : Nat) (q : List MsgD) (sent : Int) : Own := .blk b [.slice p q.length c, .int .i64 sent] 43
theorem New36_use {W w : World} {S : List Own} {Φ : PW} [Stable Φ] (cx : Ctx W w S Φ) {K : Ending → World → Prop} (hk : ∀ b w', Ctx W w' (rcO b none 0 [] 0 :: S) Φ → K (.returned (.pointer (some ⟨b, 0, none⟩))) w') : Calls Tryz.prog F.errataref36_New #[] w K :=
  (Berrataref36_New_run (J := fun u w' => K (.returned u) w') cx fun b w G cx => hk b w (Ctx.left (S := rcO b none 0 [] 0 :: S) cx)).mono fun e w' ⟨v, he, hj⟩ => by rw [he]; exact hj

set_option maxHeartbeats 1000000 in
theorem Take36_use {W w : World} {S : List Own} {Φ : PW} [Stable Φ] {b : Nat} {p : Option Addr} {c : Nat} {q : List MsgD} {sent : Int} (hc : q.length ≤ c) (h4 : q.length ≤ 4) (cx : Ctx W w (rcO b p c q sent :: S) (fun M w => Φ M w ∧ Sl M w p q)) {K : Ending → World → Prop}
    (h0 : q = [] → ∀ w', Ctx W w' (rcO b p c q sent :: S) (fun M w => Φ M w ∧ Sl M w p q) → K (.returned (.tuple #[msg0.v none 0, .int .i64 4])) w')
    (h1 : ∀ m r, q = m :: r → ∀ mp mc p' c' w', r.length ≤ c' → Ctx W w' (rcO b p' c' r sent :: S) (fun M w => (Φ M w ∧ Sl M w mp m.deltas) ∧ Sl M w p' r) → K (.returned (.tuple #[m.v mp mc, .int .i64 0])) w') :
    Calls Tryz.prog F.errataref36_Channel_Take #[.pointer (some ⟨b, 0, none⟩)] w K := by
  obtain ⟨g, o, cs, hp, cx⟩ := cx.pin cx.phi.2
  obtain ⟨Ψ, hΨ⟩ : ∃ Ψ : PW, Ψ = (fun M w => (Φ M w ∧ Sl M w p q) ∧ Pin g o cs q M w) := ⟨_, rfl⟩
  have stΨ : Stable Ψ := by rw [hΨ]; exact instStableAnd (fun M w => Φ M w ∧ Sl M w p q) (fun M w => Pin g o cs q M w)
  have k0 : ∀ M w, Ψ M w → Φ M w := fun M w h => by rw [hΨ] at h; exact h.1.1
  have k1 : ∀ M w, Ψ M w → Sl M w p q := fun M w h => by rw [hΨ] at h; exact h.1.2
  have k2 : ∀ M w, Ψ M w → Pin g o cs q M w := fun M w h => by rw [hΨ] at h; exact h.2
  rw [← hΨ] at cx
  refine (Berrataref36_Channel_Take_run b 0 (J := fun u w' => K (.returned u) w') cx ?_).mono fun e w' ⟨v, he, hj⟩ => by rw [he]; exact hj
  clear cx
  refine fun _ w G cx => ⟨p, q.length, c, cx.get 0 rfl rfl, Br.intro (fun hn => fun w G cx => ?_) (fun hn => fun w G cx => ?_)⟩
  · have hq : q = [] := List.eq_nil_of_length_eq_zero (by have := of_decide_eq_true hn; omega)
    exact h0 hq w (cx.left.weak fun M w h => ⟨k0 _ _ h, k1 _ _ h⟩)
  obtain ⟨m, r, rfl⟩ : ∃ m r, q = m :: r := by
    cases q with
    | nil => exact absurd rfl (of_decide_eq_false hn)
    | cons m r => exact ⟨m, r, rfl⟩
  have hlt : 0 < (m :: r).length := by simp
  have hlr : (m :: r).length = r.length + 1 := rfl
  have hp := hp hlt
  obtain ⟨mp, mc, he, _, _, _⟩ := pin_msg (k2 _ _ cx.phi) hlt
  refine ⟨p, _, c, cx.get 0 rfl rfl, ⟨by omega, by omega⟩, ptrK_intro g o hp fun w G cx => ⟨m.kind, m.node, m.inp, m.bucket, m.n, mp, m.deltas.length, mc, ?_, fun _ k w G cx => ⟨p, _, c, cx.get 1 rfl rfl, ⟨by omega, by omega, hc⟩, fun w G cx => ?_⟩⟩⟩
  · have h := pin_msgAt (k2 _ _ cx.phi) hlt he
    rw [Nat.zero_mul, Nat.add_zero] at h
    exact h
  have hsl : ∀ M w, Ψ M w → Sl M w (subPtr p 6 1 c) r := fun M w h => addr_sub (k1 M w h) 1 hc
  obtain ⟨p', c', w', ds, hr, cx2⟩ := Ctx.cloned (α := MsgD) (S := rcO b p c (m :: r) sent :: S ++ G) cx (P := Tryz.prog) (ts := 41) (ty := 41) (kb := #[false, false]) (c2 := c - 1) (bytes := 64) (by kernel_rfl) msg_one hsl (by omega) (by omega)
  have st2 : Stable (fun M w => Ψ M w ∧ Elems M w ds r) := instStableAnd Ψ (fun M w => Elems M w ds r)
  refine ⟨p', _, c', w', hr, .buf p' r.length c' ds 32 6 :: rcO b p c (m :: r) sent :: S, _, st2, cx2, fun w G cx => ⟨cx.can 1 rfl (by show 0 + 0 + 1 ≤ 2; omega), fun w' hw' => ?_⟩⟩
  have cx3 := cx.put 1 hw' rfl
  refine ⟨.buf p' r.length c' ds 32 6 :: rcO b p' c' r sent :: S, _, st2, cx3, fun w G cx => ?_⟩
  obtain ⟨c4, hs, _, g1, _⟩ := Ctx.freeze (α := MsgD) (S := rcO b p' c' r sent :: S ++ G) cx cx.phi.2
  exact h1 m r rfl mp mc p' c' w g1 (((c4.add (Ψ := fun M w => Sl M w p' r) hs).weak fun M w h => ⟨⟨k0 _ _ h.1.1, pin_msgSl (k2 _ _ h.1.1) hlt he⟩, h.2⟩).left)
end Go.Proofs.YtfpgbejdlikpgaaGreatDoor
end

/-
  The reference's channel: Send.
-/
section
set_option linter.unusedVariables false
set_option linter.unusedSimpArgs false
namespace Go.Proofs.YtfpgbejdlikpgaaGreatDoor
open Go.Vc


set_option maxHeartbeats 1000000 in
theorem Send36_use {W w : World} {S : List Own} {Φ : PW} [Stable Φ] {b : Nat} {p : Option Addr} {c : Nat} {q : List MsgD} {sent : Nat} {m : MsgD} {mp : Option Addr} {mc : Nat} (h4 : q.length ≤ 4) (hqc : q.length ≤ c) (hm : ∀ M w, Φ M w → Sl M w mp m.deltas) (hok : m.Ok) (hlen : m.deltas.length ≤ 9223372036854775807) (hs : sent < 1000000) (cx : Ctx W w (rcO b p c q sent :: S) (fun M w => Φ M w ∧ Sl M w p q)) {K : Ending → World → Prop}
    (hk : ∀ e q' n' p' c' w', SendR m q sent e q' n' → q'.length ≤ 4 → q'.length ≤ c' → Ctx W w' (rcO b p' c' q' (n' : Nat) :: S) (fun M w => Φ M w ∧ Sl M w p' q') → K (.returned (.int .i64 e)) w') :
    Calls Tryz.prog F.errataref36_Channel_Send #[.pointer (some ⟨b, 0, none⟩), m.v mp mc] w K := by
  have st0 : Stable (fun M w => Φ M w ∧ Sl M w p q) := instStableAnd Φ (fun M w => Sl M w p q)
  refine (Berrataref36_Channel_Send_run b 0 m.kind m.node m.inp m.bucket m.n mp m.deltas.length mc (J := fun u w' => K (.returned u) w') cx ?_).mono fun e w' ⟨v, he, hj⟩ => by rw [he]; exact hj
  clear cx
  refine fun _ w G cx => (rRight_in (Φ := fun M w => Φ M w ∧ Sl M w p q) mp mc m (fun M w h => hm _ _ h.1) hlen).toB cx (Br.intro (fun hr => fun w G cx => ?_) (fun hr => fun w G cx => ?_))
  · exact hk 1 q sent p c w (.inl ⟨by simpa using hr, rfl, rfl, rfl⟩) h4 hqc cx.left
  have hr : rightM m = true := by simpa using hr
  refine ⟨p, q.length, c, cx.get 0 rfl rfl, Br.intro (fun h => fun w G cx => ?_) (fun h => ?_)⟩
  · exact hk 27 q sent p c w (.inr (.inl ⟨hr, by have := of_decide_eq_true h; omega, rfl, rfl, rfl⟩)) h4 hqc cx.left
  have hl4 : q.length < 4 := by have := of_decide_eq_false h; omega
  have keep : ∀ {w : World} {G : List Own} {o : Own} {X : PW} [Stable X], Ctx W w (o :: rcO b p c q sent :: S ++ G) X → Ctx W w ([rcO b p c q sent] ++ G) (fun _ _ => True) := fun cx => (cx.drop1.sub (((List.nil_sublist _).cons_cons _).append_right _)).weak fun _ _ _ => trivial
  have keep2 : ∀ {w : World} {G : List Own} {o o' : Own} {X : PW} [Stable X], Ctx W w (o :: o' :: rcO b p c q sent :: S ++ G) X → Ctx W w ([rcO b p c q sent] ++ G) (fun _ _ => True) := fun cx => (cx.drop1.drop1.sub (((List.nil_sublist _).cons_cons _).append_right _)).weak fun _ _ _ => trivial
  refine ⟨[rcO b p c q sent], fun _ _ => True, inferInstance, fun w G cx => (cx.sub (((List.nil_sublist _).cons_cons _).append_right _)).weak fun _ _ _ => trivial, p, q.length, c, fun w G cx => ⟨_, _, _, cx.get 0 rfl rfl, rfl⟩, fun k => ⟨fun w G cx => keep cx, fun w G cx => ?_⟩⟩
  obtain ⟨p1, c1, w1, ds, hr1, cx1⟩ := Ctx.cloned (α := MsgD) (S := rcO b p c q sent :: S ++ G) cx (P := Tryz.prog) (ts := 41) (ty := 41) (kb := #[false, false]) (c2 := c) (bytes := 64) (by kernel_rfl) msg_one (fun M w h => h.2) (by omega) (by omega)
  have st1 : Stable (fun M w => (Φ M w ∧ Sl M w p q) ∧ Elems M w ds q) := instStableAnd (fun M w => Φ M w ∧ Sl M w p q) (fun M w => Elems M w ds q)
  refine ⟨p1, _, c1, w1, hr1, .buf p1 q.length c1 ds 32 6 :: rcO b p c q sent :: S, _, st1, cx1, fun w G cx => keep cx, fun w G cx => ?_⟩
  have hcl := rClone_copy (Φ := fun M w => (Φ M w ∧ Sl M w p q) ∧ Elems M w ds q) mp mc m (fun M w h => hm _ _ h.1.1) (right_small hr)
  refine hcl.use cx fun p2 c2 es rows w2 hf cx2 => ?_
  obtain ⟨cx3, hsl, _, g1, g2⟩ := hf.sl cx2
  have st2 : Stable (fun M w => ((Φ M w ∧ Sl M w p q) ∧ Elems M w ds q) ∧ Sl M w p2 m.deltas) := instStableAnd (fun M w => (Φ M w ∧ Sl M w p q) ∧ Elems M w ds q) (fun M w => Sl M w p2 m.deltas)
  have cx4 : Ctx W w2 (.buf p1 q.length c1 ds 32 6 :: rcO b p c q sent :: S ++ G) (fun M w => ((Φ M w ∧ Sl M w p q) ∧ Elems M w ds q) ∧ Sl M w p2 m.deltas) := cx3.add hsl
  refine ⟨_, _, _, _, _, p2, _, c2, rfl, _, _, st2, cx4, fun w G cx => keep cx, fun k2 => ⟨fun w G cx => keep2 cx, fun w G cx => ?_⟩⟩
  clear cx4 cx3 cx2
  have cx5 : Ctx W w (.blk k2 (m.cells p2 c2) 32 :: .buf p1 q.length c1 ds 32 6 :: (rcO b p c q sent :: S ++ G)) (fun M w => ((Φ M w ∧ Sl M w p q) ∧ Elems M w ds q) ∧ Sl M w p2 m.deltas) := cx
  obtain ⟨p3, c3, w3, hr3, _, cx6⟩ := cx5.app1 (ts := 41) (ty := 41) (kb := #[false, false]) (bytes := 64) (P := Tryz.prog) (by kernel_rfl) (by omega) rfl rfl (by omega) (by omega)
  have el : (q ++ [m]).length = q.length + 1 := by rw [List.length_append]; rfl
  have st3 : Stable (fun M w => Φ M w ∧ Elems M w (ds ++ m.cells p2 c2) (q ++ [m])) := instStableAnd Φ (fun M w => Elems M w (ds ++ m.cells p2 c2) (q ++ [m]))
  have cx7 : Ctx W w3 (.buf p3 (q.length + 1) c3 (ds ++ m.cells p2 c2) 32 6 :: rcO b p c q sent :: S ++ G) (fun M w => Φ M w ∧ Elems M w (ds ++ m.cells p2 c2) (q ++ [m])) := Ctx.weak (Ψ := fun M w => Φ M w ∧ Elems M w (ds ++ m.cells p2 c2) (q ++ [m])) cx6 fun M w h => ⟨h.1.1.1, h.1.2.snoc (rep_msg hok g1 g2 h.2)⟩
  refine ⟨p3, _, c3, w3, hr3, _, _, st3, cx7, fun w G cx => keep cx, fun w G cx => ⟨cx.can 1 rfl (by show 0 + 0 + 1 ≤ 2; omega), fun w' hw' => ?_⟩⟩
  have cx8 := cx.put 1 hw' rfl
  refine ⟨.buf p3 (q.length + 1) c3 (ds ++ m.cells p2 c2) 32 6 :: .blk b [.slice p3 (q.length + 1) c3, .int .i64 sent] 43 :: S, _, st3, cx8, fun w G cx => ⟨sent, cx.get 1 rfl rfl, by unfold I64; omega, fun w G cx => ⟨cx.can 1 rfl (by show 0 + 1 + 1 ≤ 2; omega), fun w' hw' => ?_⟩⟩⟩
  have cx9 := cx.put 1 hw' rfl
  refine ⟨.buf p3 (q.length + 1) c3 (ds ++ m.cells p2 c2) 32 6 :: .blk b [.slice p3 (q.length + 1) c3, .int .i64 ((sent : Int) + 1)] 43 :: S, _, st3, cx9, fun w G cx => ?_⟩
  obtain ⟨c4, hs4, _, hcap4, _⟩ := Ctx.freeze (α := MsgD) (l := q ++ [m]) (S := .blk b [.slice p3 (q.length + 1) c3, .int .i64 ((sent : Int) + 1)] 43 :: S ++ G) cx cx.phi.2
  refine hk 0 (q ++ [m]) (sent + 1) p3 c3 w (.inr (.inr ⟨hr, hl4, rfl, rfl, rfl⟩)) (by omega) (by omega) ?_
  unfold rcO
  rw [el]
  exact ((c4.add (Ψ := fun M w => Sl M w p3 (q ++ [m])) hs4).weak fun M w h => ⟨h.1.1, h.2⟩).left
end Go.Proofs.YtfpgbejdlikpgaaGreatDoor
end

/-
  The channel: Take with its error, Copy; the encoding of both sides, walked.
-/
section
set_option linter.unusedVariables false
set_option linter.unusedSimpArgs false
namespace Go.Proofs.YtfpgbejdlikpgaaGreatDoor
open Go.Vc


/-! ### messages that may be sent -/
theorem cons_keys : ∀ {l : List DeltaD}, ∀ z ∈ consP l, ∃ y ∈ l, y.key = z.key
  | [], z, hz => by cases hz
  | x :: l, z, hz => by
    rcases insD_key x (consP l) z hz with h | ⟨y, hy, h⟩
    · exact ⟨x, by simp, h.symm⟩
    · obtain ⟨u, hu, he⟩ := cons_keys y hy
      exact ⟨u, by simp [hu], he.trans h⟩
/-- what is plain data has numbers of 64 bits -/
def Mach (l : List DeltaD) : Prop := ∀ x ∈ l, (I64 x.time ∧ I64 x.n) ∧ ∀ v ∈ x.row, (I64 v.kind ∧ I64 v.num) ∧ v.text.size ≤ maxLen
theorem sl_mach {M : List Nat} {w : World} {p : Option Addr} {l : List DeltaD} (h : Sl M w p l) : Mach l := fun x hx => by
  obtain ⟨i, hi, rfl⟩ := List.getElem_of_mem hx
  obtain ⟨_, _, _, _, _, _, hr⟩ := h i hi
  obtain ⟨_, _, _, _, _, ht, hn, hs⟩ := delta_cells hr
  exact ⟨⟨ht, hn⟩, sl_i64 hs⟩
theorem cons_mach {a : List DeltaD} (h : Mach a) : Mach (consP a) := fun z hz => by
  obtain ⟨y, hy, he⟩ := cons_keys z hz
  have h1 := h y hy
  have e1 : y.time = z.time := congrArg Prod.fst he
  have e2 : y.row = z.row := congrArg Prod.snd he
  rw [← e1, ← e2]
  exact ⟨⟨h1.1.1, (consP_norm a).1.i64 z hz⟩, h1.2⟩

structure Good (m : MsgD) : Prop where
  ok : m.Ok
  right : rightM m = true
  mach : Mach m.deltas

theorem right_fits {m : MsgD} (h : rightM m = true) : m.deltas.length ≤ 8 ∧ ∀ x ∈ m.deltas, x.row.length ≤ 12 ∧ ∀ v ∈ x.row, v.text.size ≤ 200 := by
  unfold rightM headM at h
  simp only [Bool.and_eq_true, Bool.not_eq_true', Bool.or_eq_false_iff, decide_eq_false_iff_not] at h
  obtain ⟨⟨⟨_, ⟨⟨_, h1⟩, _⟩⟩, _⟩, h2⟩ := h
  refine ⟨by omega, fun x hx => ?_⟩
  rw [List.any_eq_false] at h2
  have := h2 x hx
  simp only [Bool.not_eq_true', Bool.not_eq_false] at this
  unfold rightR at this
  simp only [Bool.and_eq_true, decide_eq_true_eq, List.all_eq_true] at this
  refine ⟨by have := this.1; omega, fun v hv => ?_⟩
  have h3 := this.2 v hv
  unfold rightV3 at h3
  split at h3
  · rw [of_decide_eq_true h3]; exact Nat.zero_le _
  · split at h3
    · simp only [Bool.and_eq_true, decide_eq_true_eq] at h3
      omega
    · simp only [Bool.and_eq_true, decide_eq_true_eq] at h3
      rw [h3.2]; exact Nat.zero_le _
theorem Good.fit {m : MsgD} (h : Good m) : ∀ x ∈ m.deltas, Fit x := fun x hx => by
  have := (right_fits h.right).2 x hx
  exact ⟨by omega, fun v hv => Nat.le_trans (this.2 v hv) (by decide)⟩
theorem Good.row {m : MsgD} (h : Good m) {x : DeltaD} (hx : x ∈ consP m.deltas) : (I64 x.time ∧ I64 x.n) ∧ (rowB x.row).size ≤ 3229 ∧ x.row.length ≤ 12 ∧ ∀ v ∈ x.row, (I64 v.kind ∧ I64 v.num) ∧ v.text.size ≤ 200 := by
  have h1 := consP_row (P := fun r => r.length ≤ 12 ∧ ∀ v ∈ r, v.text.size ≤ 200) (right_fits h.right).2 x hx
  have h2 := cons_mach h.mach x hx
  have h3 : ∀ v ∈ x.row, (I64 v.kind ∧ I64 v.num) ∧ v.text.size ≤ 200 := fun v hv => ⟨(h2.2 v hv).1, h1.2 v hv⟩
  have h := rowL_len (m := 200) (r := x.row) h3 (by decide) (by omega)
  have : x.row.length * (200 + 64) ≤ 12 * (200 + 64) := Nat.mul_le_mul_right _ h1.1
  refine ⟨h2.1, ?_, h1.1, h3⟩
  unfold rowB
  rw [size_list]; omega
theorem deltasL_size : ∀ {c : List DeltaD}, (∀ x ∈ c, (deltaB x).size ≤ 3300) → (deltasL c).length ≤ c.length * 3300
  | [], _ => by simp [deltasL]
  | x :: c, h => by
    have h1 := deltasL_size (c := c) fun y hy => h y (by simp [hy])
    have h2 := h x (by simp)
    have e : deltasL (x :: c) = (deltaB x).data.toList ++ deltasL c := by simp [deltasL]
    rw [e, List.length_append, list_size, List.length_cons, Nat.add_mul]
    omega
theorem Good.bytes {m : MsgD} (h : Good m) : (bytesL m.deltas).length ≤ 30000 := by
  have h1 : ∀ x ∈ consP m.deltas, (deltaB x).size ≤ 3300 := fun x hx => by
    obtain ⟨h2, h3, _⟩ := h.row hx
    have a1 := intB_size h2.1
    have a2 := intB_size h2.2
    have a3 := textB_size (s := rowB x.row) (by omega)
    unfold deltaB
    rw [size_app, size_app]; omega
  have h4 := deltasL_size h1
  have h5 := consP_len m.deltas
  have h5' := (right_fits h.right).1
  have h6 := natB_size (n := ((consP m.deltas).length : Int)) (by unfold I64; omega)
  unfold bytesL
  rw [List.length_append, list_size]
  omega
theorem Good.msg {m : MsgD} (h : Good m) : (msgB m).size ≤ 30200 := Nat.le_trans (msgB_size h.ok (by have := h.bytes; omega)) (by have := h.bytes; omega)

/-! ### the encoding -/
def qL (q : List MsgD) : List UInt8 := q.flatMap fun m => (textB (msgB m)).data.toList
def headQ (n sent : Nat) : List UInt8 := (intB sent).data.toList ++ (natB n).data.toList
def chanL (q : List MsgD) (sent : Nat) : List UInt8 := headQ q.length sent ++ qL q
theorem qL_app (a b : List MsgD) : qL (a ++ b) = qL a ++ qL b := List.flatMap_append
theorem qL_one (m : MsgD) : qL [m] = (textB (msgB m)).data.toList := by simp [qL]
theorem qL_cons (m : MsgD) (q : List MsgD) : qL (m :: q) = (textB (msgB m)).data.toList ++ qL q := by simp [qL]
theorem bs_cat (a : List UInt8) (b : ByteArray) : bs a ++ b = bs (a ++ b.data.toList) := by
  apply ByteArray.ext
  apply Array.toList_inj.1
  rw [ByteArray.data_append, Array.toList_append]
  rfl
theorem Good.text {m : MsgD} (h : Good m) : (textB (msgB m)).size ≤ 30300 := by
  have h1 := h.msg
  have h2 := textB_size (s := msgB m) (by omega)
  omega
theorem qL_len : ∀ {q : List MsgD}, (∀ m ∈ q, Good m) → (qL q).length ≤ q.length * 30300
  | [], _ => by simp [qL]
  | m :: q, h => by
    have h1 := (h m (by simp)).text
    have h2 := qL_len (q := q) fun y hy => h y (by simp [hy])
    rw [qL_cons, List.length_append, List.length_cons, list_size]
    omega
theorem headQ_len {n sent : Nat} (hn : n ≤ 4) (hs : sent ≤ 1099511627776) : (headQ n sent).length ≤ 100 := by
  have h1 := intB_size (n := (sent : Int)) (by unfold I64; omega)
  have h2 := natB_size (n := (n : Int)) (by unfold I64; omega)
  unfold headQ
  rw [List.length_append, list_size, list_size]
  omega
theorem headQ_bs (n sent : Nat) : intB sent ++ natB n = bs (headQ n sent) := by
  rw [show intB (sent : Int) ++ natB (n : Int) = bs (intB (sent : Int)).data.toList ++ natB (n : Int) from rfl, bs_cat]
  rfl

theorem SendR.det {m : MsgD} {q q1 q2 : List MsgD} {s n1 n2 : Nat} {e1 e2 : Int} (h1 : SendR m q s e1 q1 n1) (h2 : SendR m q s e2 q2 n2) : e2 = e1 ∧ q2 = q1 ∧ n2 = n1 := by
  rcases h1 with ⟨a1, rfl, rfl, rfl⟩ | ⟨a1, b1, rfl, rfl, rfl⟩ | ⟨a1, b1, rfl, rfl, rfl⟩ <;> rcases h2 with ⟨a2, rfl, rfl, rfl⟩ | ⟨a2, b2, rfl, rfl, rfl⟩ | ⟨a2, b2, rfl, rfl, rfl⟩ <;> first | exact ⟨rfl, rfl, rfl⟩ | exact absurd (a1.symm.trans a2) Bool.false_ne_true | exact absurd (a2.symm.trans a1) Bool.false_ne_true | (exfalso; omega)
theorem SendR.good {m : MsgD} {q q1 : List MsgD} {s n1 : Nat} {e1 : Int} (h : SendR m q s e1 q1 n1) (hq : ∀ x ∈ q, Good x) (hok : m.Ok) (hm : Mach m.deltas) : (∀ x ∈ q1, Good x) ∧ s ≤ n1 ∧ n1 ≤ s + 1 ∧ (q.length ≤ s → q1.length ≤ n1) := by
  rcases h with ⟨_, _, rfl, rfl⟩ | ⟨_, _, _, rfl, rfl⟩ | ⟨hr, _, _, rfl, rfl⟩
  · exact ⟨hq, Nat.le_refl _, by omega, id⟩
  · exact ⟨hq, Nat.le_refl _, by omega, id⟩
  · refine ⟨fun x hx => ?_, by omega, Nat.le_refl _, fun h => by rw [List.length_append, List.length_singleton]; omega⟩
    rcases List.mem_append.1 hx with hx | hx
    · exact hq x hx
    · rw [List.mem_singleton.1 hx]; exact ⟨hok, hr, hm⟩

/-! ### Take, Copy -/
def takeE (q : List MsgD) : Int := if q.length = 0 then 4 else 0
section
variable {W w : World} {S : List Own} {Φ : PW}
theorem TakeE_use [Stable Φ] {b : Nat} {cs : List Value} {q : List MsgD} {first sent : Nat} (c : Ctx W w (.blk b cs 59 :: S) (fun M w => Φ M w ∧ ChanS cs q first M w)) (hc : ChanC cs q first sent) {K : Ending → World → Prop}
    (hk : ∀ p cap w' cs' first', ChanC cs' q.tail first' sent → Ctx W w' (.blk b cs' 59 :: S) (fun M w => (Φ M w ∧ ChanS cs' q.tail first' M w) ∧ Sl M w p (q.headD msg0).deltas) → K (.returned (.tuple #[(q.headD msg0).v p cap, .int .i64 (takeE q)])) w') :
    Calls Tryz.prog F.channel_Channel_Take #[.pointer (some ⟨b, 0, none⟩)] w K := by
  cases q with
  | nil => exact Take_none c hc fun w' cx => hk none 0 w' cs first hc (cx.weak fun M w h => ⟨h, Sl.nil⟩)
  | cons m q =>
    refine Take_in c hc fun p cap ds rows w' cs' hc' hf cx => ?_
    have st : Stable (fun M w => Φ M w ∧ ChanS cs' q ((first + 1) % 4) M w) := inferInstance
    obtain ⟨c2, h2, _⟩ := hf.sl (cx.perm List.perm_middle.symm)
    exact hk p cap w' cs' _ hc' (c2.add h2)

theorem SendE_use [Stable Φ] {b : Nat} {cs : List Value} {m : MsgD} {p : Option Addr} {cap : Nat} {q : List MsgD} {first sent : Nat} (c : Ctx W w (.blk b cs 59 :: S) (fun M w => Φ M w ∧ ChanS cs q first M w)) (hc : ChanC cs q first sent)
    (hm : ∀ M w, Φ M w → Sl M w p m.deltas) (hok : m.Ok) (hlen : m.deltas.length ≤ 9223372036854775807) (hs : sent < 1000000) {K : Ending → World → Prop}
    (hk : ∀ e cs' q' n' w', SendR m q sent e q' n' → ChanC cs' q' first n' → Ctx W w' (.blk b cs' 59 :: S) (fun M w => Φ M w ∧ ChanS cs' q' first M w) → K (.returned (.int .i64 e)) w') :
    Calls Tryz.prog F.channel_Channel_Send #[.pointer (some ⟨b, 0, none⟩), m.v p cap] w K := by
  have hst1 : Stable (fun M w => Φ M w ∧ ChanS cs q first M w) := inferInstance
  cases hr : rightM m with
  | false => exact Send_arg c (fun M w h => hm M w h.1) hlen hr fun w' cx => hk 1 cs q sent w' (.inl ⟨hr, rfl, rfl, rfl⟩) hc cx
  | true =>
  have hcnt := hc.count
  by_cases hq4 : q.length = 4
  · exact Send_full c hc (fun M w h => hm M w h.1) hlen hr hq4 fun w' cx => hk 27 cs q sent w' (.inr (.inl ⟨hr, hq4, rfl, rfl, rfl⟩)) hc cx
  have hq : q.length < 4 := by omega
  exact Send_in c hc hm hok hr hq hs fun cs' w' hc' cx => hk 0 cs' (q ++ [m]) (sent + 1) w' (.inr (.inr ⟨hr, hq, rfl, rfl, rfl⟩)) hc' cx
theorem Sent_use [Stable Φ] {b : Nat} {cs : List Value} {t : TypeId} {n : Int} {i : Nat} (c : Ctx W w S Φ) (hi : S[i]? = some (.blk b cs t)) (hn : cs[26]? = some (.int .i64 n)) {K : Ending → World → Prop} (hk : ∀ w', Ctx W w' S Φ → K (.returned (.int .i64 n)) w') :
    Calls Tryz.prog F.channel_Channel_Sent #[.pointer (some ⟨b, 0, none⟩)] w K :=
  (Bchannel_Channel_Sent_run b 0 (J := fun u w' => K (.returned u) w') c fun w G cx => ⟨n, cx.left.get i hi (by rw [Nat.zero_add]; exact hn), fun w G cx => hk w cx.left⟩).mono fun e w' ⟨v, he, hj⟩ => by rw [he]; exact hj

theorem chan_cells {cs : List Value} {q : List MsgD} {first sent : Nat} (hc : ChanC cs q first sent) : ∃ a1 a2 a3 a4 a5 ap an ac b1 b2 b3 b4 b5 bp bn bc c1 c2 c3 c4 c5 cp cn cc d1 d2 d3 d4 d5 dp dn dc x y z,
    cs = [.int .i64 a1, .int .i64 a2, .int .i64 a3, .int .i64 a4, .int .i64 a5, .slice ap an ac, .int .i64 b1, .int .i64 b2, .int .i64 b3, .int .i64 b4, .int .i64 b5, .slice bp bn bc, .int .i64 c1, .int .i64 c2, .int .i64 c3, .int .i64 c4, .int .i64 c5, .slice cp cn cc, .int .i64 d1, .int .i64 d2, .int .i64 d3, .int .i64 d4, .int .i64 d5, .slice dp dn dc, .int .i64 x, .int .i64 y, .int .i64 z] := by
  obtain ⟨a1, a2, a3, a4, a5, ap, an, ac, ha⟩ := hc.slots 0 (by omega)
  obtain ⟨b1, b2, b3, b4, b5, bp, bn, bc, hb⟩ := hc.slots 1 (by omega)
  obtain ⟨c1, c2, c3, c4, c5, cp, cn, cc, hc'⟩ := hc.slots 2 (by omega)
  obtain ⟨d1, d2, d3, d4, d5, dp, dn, dc, hd⟩ := hc.slots 3 (by omega)
  refine ⟨a1, a2, a3, a4, a5, ap, an, ac, b1, b2, b3, b4, b5, bp, bn, bc, c1, c2, c3, c4, c5, cp, cn, cc, d1, d2, d3, d4, d5, dp, dn, dc, (first : Int), (q.length : Int), (sent : Int), ?_⟩
  have hl := hc.len
  have h24 : cs.drop 24 = [.int .i64 (first : Int), .int .i64 (q.length : Int), .int .i64 (sent : Int)] := by
    apply List.ext_getElem?
    intro i
    match i with
    | 0 => rw [List.getElem?_drop]; exact hc.c24
    | 1 => rw [List.getElem?_drop]; exact hc.c25
    | 2 => rw [List.getElem?_drop]; exact hc.c26
    | i + 3 => rw [List.getElem?_eq_none (by rw [List.length_drop]; omega), List.getElem?_eq_none (by simp)]
  have s0 : cs = (cs.drop (0 * 6)).take 6 ++ ((cs.drop (1 * 6)).take 6 ++ ((cs.drop (2 * 6)).take 6 ++ ((cs.drop (3 * 6)).take 6 ++ cs.drop 24))) := by
    have e : ∀ k, (cs.drop (k * 6)).take 6 ++ cs.drop ((k + 1) * 6) = cs.drop (k * 6) := fun k => by
      conv => rhs; rw [← List.take_append_drop 6 (cs.drop (k * 6))]
      rw [List.drop_drop, Nat.add_mul]
    have e3 := e 3
    have e2 := e 2
    have e1 := e 1
    have e0 := e 0
    rw [show (3 + 1) * 6 = 24 from rfl] at e3
    rw [e3, e2, e1, e0]
    rfl
  rw [ha, hb, hc', hd, h24] at s0
  rw [s0]
  rfl
theorem setL_all {l vs : List Value} (h : l.length = vs.length) : setL l 0 vs = vs := by
  apply List.ext_getElem?
  intro i
  rcases Nat.lt_or_ge i vs.length with hi | hi
  · have := setL_in vs l 0 i hi (by omega)
    rw [Nat.zero_add] at this
    exact this
  · rw [List.getElem?_eq_none (by rw [setL_len]; omega), List.getElem?_eq_none hi]
theorem Copy_use [Stable Φ] {b : Nat} {cs : List Value} {q : List MsgD} {first sent : Nat} (cx : Ctx W w (.blk b cs 59 :: S) Φ) (hc : ChanC cs q first sent) {K : Ending → World → Prop}
    (hk : ∀ b' w', Ctx W w' (.blk b' cs 59 :: .blk b cs 59 :: S) Φ → K (.returned (.pointer (some ⟨b', 0, none⟩))) w') : Calls Tryz.prog F.channel_Channel_Copy #[.pointer (some ⟨b, 0, none⟩)] w K := by
  obtain ⟨a1, a2, a3, a4, a5, ap, an, ac, b1, b2, b3, b4, b5, bp, bn, bc, c1, c2, c3, c4, c5, cp, cn, cc, d1, d2, d3, d4, d5, dp, dn, dc, x, y, z, hcs⟩ := chan_cells hc
  refine (Bchannel_Channel_Copy_run b 0 (J := fun u w' => K (.returned u) w') cx ?_).mono fun e w' ⟨v, he, hj⟩ => by rw [he]; exact hj
  refine fun w G cx => ⟨a1, a2, a3, a4, a5, ap, an, ac, b1, b2, b3, b4, b5, bp, bn, bc, c1, c2, c3, c4, c5, cp, cn, cc, d1, d2, d3, d4, d5, dp, dn, dc, x, y, z, ?_⟩
  rw [← hcs]
  have hl := hc.len
  refine ⟨cx.row 0 rfl (fun j hj => by rw [Nat.zero_add]; exact List.getElem?_eq_getElem hj), fun k w G cx => ⟨cx.can 0 rfl (by show 0 + 27 ≤ 27; omega), fun w' hw' => ?_⟩⟩
  have cx1 := cx.puts 0 hw' rfl
  rw [setL_all (by rw [hl]; rfl)] at cx1
  exact ⟨.blk k cs 59 :: .blk b cs 59 :: S, Φ, inferInstance, cx1, fun w G cx => hk k w (Ctx.left (F := G) cx)⟩

/-! ### Bytes -/
set_option maxHeartbeats 1000000 in
theorem BytesC_use [Stable Φ] (hT : ∀ M w, Φ M w → TabI M w) {b : Nat} {cs : List Value} {q : List MsgD} {first sent : Nat} (cx : Ctx W w (.blk b cs 59 :: S) Φ) (hc : ChanC cs q first sent) (hS : ∀ M w, Φ M w → ChanS cs q first M w) (hg : ∀ m ∈ q, Good m) (hs : sent ≤ 1099511627776) {K : Ending → World → Prop}
    (hk : ∀ w', Ctx W w' (.blk b cs 59 :: S) Φ → K (.returned (.string (bs (chanL q sent)))) w') : Calls Tryz.prog F.channel_Channel_Bytes #[.pointer (some ⟨b, 0, none⟩)] w K := by
  have hq4 := hc.count
  have hh := headQ_len hq4 hs
  have h1 := intB_size (n := (sent : Int)) (by unfold I64; omega)
  have h2 := natB_size (n := (q.length : Int)) (by unfold I64; omega)
  have hpre : ∀ i, (qL (q.take i)).length ≤ 121200 := fun i => by
    have h1 := qL_len (q := q.take i) fun y hy => hg y (List.mem_of_mem_take hy)
    rw [List.length_take] at h1
    omega
  refine (Bchannel_Channel_Bytes_run b 0 (J := fun u w' => K (.returned u) w') cx ?_).mono fun e w' ⟨v, he, hj⟩ => by rw [he]; exact hj
  clear cx
  have keep : ∀ {w : World} {G : List Own} {X : PW} [Stable X], Ctx W w ((.blk b cs 59 :: S) ++ G) X → Ctx W w ([.blk b cs 59] ++ G) (fun _ _ => True) := fun cx => (Ctx.sub cx (((List.nil_sublist _).cons_cons _).append_right _)).weak fun _ _ _ => trivial
  refine ⟨[.blk b cs 59], fun _ _ => True, inferInstance, fun w G cx => keep cx, (sent : Int), fun w G cx => ⟨_, cx.get 0 rfl hc.c26, rfl⟩, (q.length : Int), fun w G cx => ⟨_, cx.get 0 rfl hc.c25, rfl⟩, fun w G cx => ?_⟩
  refine (Int_in (.inl ⟨hT, by unfold I64; omega⟩)).toS cx ⟨fun w G cx => keep cx, fun w G cx => (Num_in (.inl ⟨hT, by unfold I64; omega⟩)).toS cx ⟨by show (intB (sent : Int)).size + (natB (q.length : Int)).size ≤ _; omega, fun w G cx => ?_⟩⟩
  refine List_use (S := S ++ G) cx hc hS fun p cap w hcap cx => ?_
  obtain ⟨g, o, ms, hp, cx⟩ := cx.pin cx.phi.2
  obtain ⟨Ψ, hΨ⟩ : ∃ Ψ : PW, Ψ = (fun M w => (Φ M w ∧ Sl M w p q) ∧ Pin g o ms q M w) := ⟨_, rfl⟩
  have stΨ : Stable Ψ := by rw [hΨ]; exact instStableAnd (fun M w => Φ M w ∧ Sl M w p q) (fun M w => Pin g o ms q M w)
  have k0 : ∀ M w, Ψ M w → Φ M w := fun M w h => by rw [hΨ] at h; exact h.1.1
  have k2 : ∀ M w, Ψ M w → Pin g o ms q M w := fun M w h => by rw [hΨ] at h; exact h.2
  rw [← hΨ] at cx
  refine ⟨p, _, cap, rfl, .blk b cs 59 :: S, Ψ, stΨ, cx, ?_⟩
  clear cx
  rw [headQ_bs]
  refine exI_mk (fun st nI R' Φ' k => ∃ i : Nat, nI = i ∧ i ≤ q.length ∧ st = bs (headQ q.length sent ++ qL (q.take i)) ∧ R' = .blk b cs 59 :: S ∧ Φ' = Ψ ∧ k = q.length - i) ⟨⟨_, Ψ, _, stΨ, fun w G cx => cx, 0, rfl, Nat.zero_le _, by rw [List.take_zero, show qL [] = [] from rfl, List.append_nil], rfl, rfl, rfl⟩, ?_⟩
  rintro st nI R1 Φ1 k _ ⟨i, rfl, hi, rfl, rfl, rfl, rfl⟩
  have hpi := hpre i
  have hbs : (bs (headQ q.length sent ++ qL (q.take i))).size = (headQ q.length sent).length + (qL (q.take i)).length := by rw [bs_size, List.length_append]
  refine Br.intro (fun hlt => ?_) (fun hge => fun w G cx => ?_)
  · have hlt : i < q.length := by have := of_decide_eq_true hlt; omega
    have hgm := hg _ (List.getElem_mem hlt)
    have hmt := hgm.text
    have hmb := hgm.bytes
    have hms := hgm.msg
    refine ⟨⟨by omega, by omega⟩, ptrK_intro g o (hp (by omega)) fun w G cx => ?_⟩
    obtain ⟨mp, mc, he, hm1, hm2, hok⟩ := pin_msg (k2 _ _ cx.phi) hlt
    refine ⟨q[i].kind, q[i].node, q[i].inp, q[i].bucket, q[i].n, mp, _, mc, by rw [Int.toNat_natCast]; exact pin_msgAt (k2 _ _ cx.phi) hlt he, fun _ w G cx => ?_⟩
    refine (MessageBytes_in (m := q[i]) (fun M w h => hT _ _ (k0 _ _ h)) (fun M w h => pin_msgSl (k2 _ _ h) hlt he) hok (by have := (right_fits hgm.right).1; omega) hgm.fit (by omega)).toS cx fun w G cx => ?_
    refine (Text_in (s := msgB q[i]) (.inl ⟨fun M w h => hT _ _ (k0 _ _ h), by unfold I64; omega⟩) (by omega)).toS cx ⟨by show (bs (headQ q.length sent ++ qL (q.take i))).size + (textB (msgB q[i])).size ≤ _; omega, by unfold I64; omega, _, Φ1, q.length - (i + 1), stΨ, fun w G cx => cx, ⟨i + 1, by omega, by omega, ?_, rfl, rfl, rfl⟩, by omega⟩
    rw [bs_cat, List.take_succ_eq_append_getElem hlt, qL_app, qL_one, List.append_assoc]
  · have hge : i = q.length := by have := of_decide_eq_false hge; omega
    subst hge
    rw [List.take_length]
    exact hk w ((Ctx.left (F := G) cx).weak k0)

set_option maxHeartbeats 1000000 in
theorem Bytes36_use [Stable Φ] {b : Nat} {p : Option Addr} {cap : Nat} {q : List MsgD} {sent : Nat} (cx : Ctx W w (rcO b p cap q sent :: S) Φ) (hq4 : q.length ≤ 4) (hS : ∀ M w, Φ M w → Sl M w p q) (hg : ∀ m ∈ q, Good m) (hs : sent ≤ 1099511627776) {K : Ending → World → Prop}
    (hk : ∀ w', Ctx W w' (rcO b p cap q sent :: S) Φ → K (.returned (.string (bs (chanL q sent)))) w') : Calls Tryz.prog F.errataref36_Channel_Bytes #[.pointer (some ⟨b, 0, none⟩)] w K := by
  have hh := headQ_len hq4 hs
  have h1 := intB_size (n := (sent : Int)) (by unfold I64; omega)
  have h2 := natB_size (n := (q.length : Int)) (by unfold I64; omega)
  have hpre : ∀ i, (qL (q.take i)).length ≤ 121200 := fun i => by
    have h1 := qL_len (q := q.take i) fun y hy => hg y (List.mem_of_mem_take hy)
    rw [List.length_take] at h1
    omega
  obtain ⟨g, o, ms, hp, cx⟩ := cx.pin (hS _ _ cx.phi)
  obtain ⟨Ψ, hΨ⟩ : ∃ Ψ : PW, Ψ = (fun M w => Φ M w ∧ Pin g o ms q M w) := ⟨_, rfl⟩
  have stΨ : Stable Ψ := by rw [hΨ]; exact instStableAnd Φ (fun M w => Pin g o ms q M w)
  have k0 : ∀ M w, Ψ M w → Φ M w := fun M w h => by rw [hΨ] at h; exact h.1
  have k2 : ∀ M w, Ψ M w → Pin g o ms q M w := fun M w h => by rw [hΨ] at h; exact h.2
  rw [← hΨ] at cx
  refine (Berrataref36_Channel_Bytes_run b 0 (J := fun u w' => K (.returned u) w') cx ?_).mono fun e w' ⟨v, he, hj⟩ => by rw [he]; exact hj
  clear cx
  have keep : ∀ {w : World} {G : List Own} {X : PW} [Stable X], Ctx W w ((rcO b p cap q sent :: S) ++ G) X → Ctx W w ([rcO b p cap q sent] ++ G) (fun _ _ => True) := fun cx => (Ctx.sub cx (((List.nil_sublist _).cons_cons _).append_right _)).weak fun _ _ _ => trivial
  refine ⟨[rcO b p cap q sent], fun _ _ => True, inferInstance, fun w G cx => keep cx, (sent : Int), fun w G cx => ⟨_, cx.get 0 rfl rfl, rfl⟩, p, q.length, cap, fun w G cx => ⟨_, _, _, cx.get 0 rfl rfl, rfl⟩, fun w G cx => ?_⟩
  refine ((Int01_g _ (by unfold I64; omega)).in).toS cx ⟨fun w G cx => keep cx, fun w G cx => ((Num01_g _ (by unfold I64; omega)).in).toS cx ⟨by show (intB (sent : Int)).size + (natB (q.length : Int)).size ≤ _; omega, ?_⟩⟩
  clear cx
  rw [headQ_bs]
  refine exI_mk (fun st nI R' Φ' k => ∃ i : Nat, nI = i ∧ i ≤ q.length ∧ st = bs (headQ q.length sent ++ qL (q.take i)) ∧ R' = rcO b p cap q sent :: S ∧ Φ' = Ψ ∧ k = q.length - i) ⟨⟨_, Ψ, _, stΨ, fun w G cx => cx, 0, rfl, Nat.zero_le _, by rw [List.take_zero, show qL [] = [] from rfl, List.append_nil], rfl, rfl, rfl⟩, ?_⟩
  rintro st nI R1 Φ1 k _ ⟨i, rfl, hi, rfl, rfl, rfl, rfl⟩
  have hpi := hpre i
  have hbs : (bs (headQ q.length sent ++ qL (q.take i))).size = (headQ q.length sent).length + (qL (q.take i)).length := by rw [bs_size, List.length_append]
  refine fun w G cx => ⟨p, q.length, cap, cx.get 0 rfl rfl, Br.intro (fun hlt => fun w G cx => ?_) (fun hge => fun w G cx => ?_)⟩
  · have hlt : i < q.length := by have := of_decide_eq_true hlt; omega
    have hgm := hg _ (List.getElem_mem hlt)
    have hmt := hgm.text
    have hmb := hgm.bytes
    have hms := hgm.msg
    refine ⟨p, q.length, cap, cx.get 0 rfl rfl, ⟨by omega, by omega⟩, ptrK_intro g o (hp (by omega)) fun w G cx => ?_⟩
    obtain ⟨mp, mc, he, hm1, hm2, hok⟩ := pin_msg (k2 _ _ cx.phi) hlt
    refine ⟨q[i].kind, q[i].node, q[i].inp, q[i].bucket, q[i].n, mp, _, mc, by rw [Int.toNat_natCast]; exact pin_msgAt (k2 _ _ cx.phi) hlt he, fun w G cx => ?_⟩
    refine (MessageBytes36_in (m := q[i]) (fun M w h => pin_msgSl (k2 _ _ h) hlt he) hok hm1 hm2 (by have := (right_fits hgm.right).1; omega) hgm.fit (by omega)).toS cx fun w G cx => ?_
    refine ((Text01_g (msgB q[i]) (by omega)).in).toS cx ⟨by show (bs (headQ q.length sent ++ qL (q.take i))).size + (textB (msgB q[i])).size ≤ _; omega, by unfold I64; omega, _, Φ1, q.length - (i + 1), stΨ, fun w G cx => cx, ⟨i + 1, by omega, by omega, ?_, rfl, rfl, rfl⟩, by omega⟩
    rw [bs_cat, List.take_succ_eq_append_getElem hlt, qL_app, qL_one, List.append_assoc]
  · have hge : i = q.length := by have := of_decide_eq_false hge; omega
    subst hge
    rw [List.take_length]
    exact hk w ((Ctx.left (F := G) cx).weak k0)
end
end Go.Proofs.YtfpgbejdlikpgaaGreatDoor
end

/-
  The conditions of the walks of some functions, one formula each; 'B<f>_run' says that they suffice. The formulas are printed by a program; the kernel compares them with the functions' code.
-/
section
namespace Go.Proofs.YtfpgbejdlikpgaaGreatDoor
set_option linter.unusedVariables false
set_option linter.unusedSimpArgs false
set_option maxRecDepth 100000
open Go.Vc

end Go.Proofs.YtfpgbejdlikpgaaGreatDoor
end

/-
  The conditions of the walks of some functions, one formula each; 'B<f>_run' says that they suffice. The formulas are printed by a program; the kernel compares them with the functions' code.
-/
section
namespace Go.Proofs.YtfpgbejdlikpgaaGreatDoor
set_option linter.unusedVariables false
set_option linter.unusedSimpArgs false
set_option maxRecDepth 100000
open Go.Vc

/-- erratalaw36.ChannelTells -/
-- loop at region 7: 4 c, 6 i; blocks 
-- cut 23: 4 c; blocks 
-- known blocks: 7 a, 9 b
def Merratalaw36_ChannelTells (lP : Option Addr) (lN lC : Nat) (W : World) (R : List Own) (Φ : PW) (J : Value → World → Prop) : Prop :=
  ∀ (w0 : World) (R1 : List Own), Ctx W w0 (R ++ R1) Φ → Calls Tryz.prog F.erratalaw36_small #[] w0 fun (e2 : Ending) (w3 : World) => ∃ (c4 : Bool), e2 = Ending.returned (Value.bool c4) ∧ ∃
  (R5 : List Own), ∃ (Φ6 : PW), Stable Φ6 ∧ Ctx W w3 (R5 ++ R1) Φ6 ∧ ∀ (w7 : World) (R8 : List Own), Ctx W w7 (R5 ++ R8) Φ6 → Calls Tryz.prog F.channel_New #[] w7 fun (e9 : Ending) (w10 :
  World) => ∃ (p11 : Option Addr), e9 = Ending.returned (Value.pointer p11) ∧ ∃ (R12 : List Own), ∃ (Φ13 : PW), Stable Φ13 ∧ Ctx W w10 (R12 ++ R8) Φ13 ∧ ∀ (w14 : World) (R15 : List Own), Ctx
  W w14 (R12 ++ R15) Φ13 → Calls Tryz.prog F.errataref36_New #[] w14 fun (e16 : Ending) (w17 : World) => ∃ (p18 : Option Addr), e16 = Ending.returned (Value.pointer p18) ∧ ∃ (R19 : List Own),
  ∃ (Φ20 : PW), Stable Φ20 ∧ Ctx W w17 (R19 ++ R15) Φ20 ∧ ∀ (w21 : World) (R22 : List Own), Ctx W w21 (R19 ++ R22) Φ20 → Calls Tryz.prog F.erratalaw36_few #[Value.slice lP lN lC, Value.int
  IntKind.i64 80] w21 fun (e23 : Ending) (w24 : World) => ∃ (c25 : Bool), e23 = Ending.returned (Value.bool c25) ∧ ∃ (R26 : List Own), ∃ (Φ27 : PW), Stable Φ27 ∧ Ctx W w24 (R26 ++ R22) Φ27 ∧
  Br (!c25) (∀ (w28 : World) (R29 : List Own), Ctx W w28 (R26 ++ R29) Φ27 → ∀ (w30 : World) (R31 : List Own), Ctx W w30 (R26 ++ R31) Φ27 → J (Value.bool (c4 && !p11.isNone)) w30) (Br
  p11.isNone (∀ (w32 : World) (R33 : List Own), Ctx W w32 (R26 ++ R33) Φ27 → ∀ (w34 : World) (R35 : List Own), Ctx W w34 (R26 ++ R35) Φ27 → J (Value.bool (c4 && !p11.isNone)) w34) (exI fun
  (I36 : Option Addr → Int → List Own → PW → Nat → Prop) => (∃ (R37 : List Own), ∃ (Φ38 : PW), ∃ (k39 : Nat), Stable Φ38 ∧ (∀ (w40 : World) (R41 : List Own), Ctx W w40 (R26 ++ R41) Φ27 → Ctx
  W w40 (R37 ++ R41) Φ38) ∧ I36 p11 0 R37 Φ38 k39) ∧ ∀ (p42 : Option Addr) (n43 : Int) (R44 : List Own) (I45 : List Nat → World → Prop) (k46 : Nat), Stable I45 → I36 p42 n43 R44 I45 k46 → Br
  (decide (n43 < (↑lN : Int))) ((0 ≤ n43 ∧ n43 < (↑lN : Int)) ∧ ptrK none lP fun (k47 k48 : Nat) => ∀ (w49 : World) (R50 : List Own), Ctx W w49 (R44 ++ R50) I45 → ∃ (n51 : Int), ∃ (n52 :
  Int), ∃ (n53 : Int), ∃ (n54 : Int), ∃ (n55 : Int), ∃ (p56 : Option Addr), ∃ (k57 : Nat), ∃ (k58 : Nat), RowAt w49 k47 (k48 + n43.toNat * 7 + 1) [Value.int IntKind.i64 n51, Value.int
  IntKind.i64 n52, Value.int IntKind.i64 n53, Value.int IntKind.i64 n54, Value.int IntKind.i64 n55, Value.slice p56 k57 k58] ∧ ∀ (w59 : World) (R60 : List Own), Ctx W w59 (R44 ++ R60) I45 →
  Calls Tryz.prog F.erratalaw36_right #[Value.agg #[Value.int IntKind.i64 n51, Value.int IntKind.i64 n52, Value.int IntKind.i64 n53, Value.int IntKind.i64 n54, Value.int IntKind.i64 n55,
  Value.slice p56 k57 k58]] w59 fun (e61 : Ending) (w62 : World) => ∃ (c63 : Bool), e61 = Ending.returned (Value.bool c63) ∧ ∃ (R64 : List Own), ∃ (Φ65 : PW), Stable Φ65 ∧ Ctx W w62 (R64 ++
  R60) Φ65 ∧ Br (!c63) (∀ (w66 : World) (R67 : List Own), Ctx W w66 (R64 ++ R67) Φ65 → J (Value.bool c4) w66) (exI fun (I68 : Option Addr → List Own → PW → Prop) => ((0 ≤ n43 ∧ n43 < (↑lN :
  Int)) ∧ ptrK none lP fun (k69 k70 : Nat) => ∀ (w71 : World) (R72 : List Own), Ctx W w71 (R64 ++ R72) Φ65 → ∃ (n73 : Int), w71.cell? (Addr.mk k69 (k70 + n43.toNat * 7) none) = some
  (Value.int IntKind.i64 n73) ∧ ∃ (n74 : Int), (∀ (w75 : World), Sem.run Tryz.prog (binOp BinOp.and 3 (Value.int IntKind.i64 n73) (Value.int IntKind.i64 3)) w75 = Result.ok (Value.int
  IntKind.i64 n74) w75) ∧ Br (decide (n74 = 2)) (∀ (w76 : World) (R77 : List Own), Ctx W w76 (R64 ++ R77) Φ65 → Calls Tryz.prog F.channel_Channel_Take #[Value.pointer p42] w76 fun (e78 :
  Ending) (w79 : World) => ∃ (n80 : Int), ∃ (n81 : Int), ∃ (n82 : Int), ∃ (n83 : Int), ∃ (n84 : Int), ∃ (p85 : Option Addr), ∃ (k86 : Nat), ∃ (k87 : Nat), ∃ (n88 : Int), e78 = Ending.returned
  (Value.tuple #[Value.agg #[Value.int IntKind.i64 n80, Value.int IntKind.i64 n81, Value.int IntKind.i64 n82, Value.int IntKind.i64 n83, Value.int IntKind.i64 n84, Value.slice p85 k86 k87],
  Value.int IntKind.i64 n88]) ∧ ∃ (R89 : List Own), ∃ (Φ90 : PW), Stable Φ90 ∧ Ctx W w79 (R89 ++ R77) Φ90 ∧ ∀ (b : Nat) (w91 : World) (R92 : List Own), Ctx W w91 (R89 ++ R92) Φ90 → Calls
  Tryz.prog F.errataref36_Channel_Take #[Value.pointer p18] w91 fun (e93 : Ending) (w94 : World) => ∃ (n95 : Int), ∃ (n96 : Int), ∃ (n97 : Int), ∃ (n98 : Int), ∃ (n99 : Int), ∃ (p100 : Option
  Addr), ∃ (k101 : Nat), ∃ (k102 : Nat), ∃ (n103 : Int), e93 = Ending.returned (Value.tuple #[Value.agg #[Value.int IntKind.i64 n95, Value.int IntKind.i64 n96, Value.int IntKind.i64 n97,
  Value.int IntKind.i64 n98, Value.int IntKind.i64 n99, Value.slice p100 k101 k102], Value.int IntKind.i64 n103]) ∧ ∃ (R104 : List Own), ∃ (Φ105 : PW), Stable Φ105 ∧ Ctx W w94 (R104 ++ R92)
  Φ105 ∧ ∀ (b : Nat), Br (decide (n88 ≠ n103)) (∀ (w106 : World) (R107 : List Own), Ctx W w106 (R104 ++ R107) Φ105 → J (Value.bool false) w106) (∀ (w108 : World) (R109 : List Own), Ctx W w108
  (R104 ++ R109) Φ105 → Calls Tryz.prog F.channel_Same #[Value.agg #[Value.int IntKind.i64 n80, Value.int IntKind.i64 n81, Value.int IntKind.i64 n82, Value.int IntKind.i64 n83, Value.int
  IntKind.i64 n84, Value.slice p85 k86 k87], Value.agg #[Value.int IntKind.i64 n95, Value.int IntKind.i64 n96, Value.int IntKind.i64 n97, Value.int IntKind.i64 n98, Value.int IntKind.i64 n99,
  Value.slice p100 k101 k102]] w108 fun (e110 : Ending) (w111 : World) => ∃ (c112 : Bool), e110 = Ending.returned (Value.bool c112) ∧ ∃ (R113 : List Own), ∃ (Φ114 : PW), Stable Φ114 ∧ Ctx W
  w111 (R113 ++ R109) Φ114 ∧ Br (!c112) (∀ (w115 : World) (R116 : List Own), Ctx W w115 (R113 ++ R116) Φ114 → J (Value.bool false) w115) (∃ (R117 : List Own), ∃ (Φ118 : PW), Stable Φ118 ∧ (∀
  (w119 : World) (R120 : List Own), Ctx W w119 (R113 ++ R120) Φ114 → Ctx W w119 (R117 ++ R120) Φ118) ∧ I68 p42 R117 Φ118))) (Br (decide (n74 = 3)) (∀ (w121 : World) (R122 : List Own), Ctx W
  w121 (R64 ++ R122) Φ65 → Calls Tryz.prog F.channel_Channel_Copy #[Value.pointer p42] w121 fun (e123 : Ending) (w124 : World) => ∃ (p125 : Option Addr), e123 = Ending.returned (Value.pointer
  p125) ∧ ∃ (R126 : List Own), ∃ (Φ127 : PW), Stable Φ127 ∧ Ctx W w124 (R126 ++ R122) Φ127 ∧ Br p125.isNone (∀ (w128 : World) (R129 : List Own), Ctx W w128 (R126 ++ R129) Φ127 → J (Value.bool
  false) w128) (∃ (R130 : List Own), ∃ (Φ131 : PW), Stable Φ131 ∧ (∀ (w132 : World) (R133 : List Own), Ctx W w132 (R126 ++ R133) Φ127 → Ctx W w132 (R130 ++ R133) Φ131) ∧ I68 p125 R130 Φ131))
  (∃ (R134 : List Own), ∃ (Φ135 : PW), Stable Φ135 ∧ (∀ (w136 : World) (R137 : List Own), Ctx W w136 (R64 ++ R137) Φ65 → Ctx W w136 (R134 ++ R137) Φ135) ∧ (0 ≤ n43 ∧ n43 < (↑lN : Int)) ∧ ptrK
  none lP fun (k138 k139 : Nat) => (0 ≤ n43 ∧ n43 < (↑lN : Int)) ∧ ptrK none lP fun (k140 k141 : Nat) => ∃ (n142 : Int), ∃ (n143 : Int), ∃ (n144 : Int), ∃ (n145 : Int), ∃ (n146 : Int), ∃
  (p147 : Option Addr), ∃ (k148 : Nat), ∃ (k149 : Nat), (∀ (w150 : World) (R151 : List Own), Ctx W w150 (R134 ++ R151) Φ135 → ∃ (n152 : Int), ∃ (n153 : Int), ∃ (n154 : Int), ∃ (n155 : Int), ∃
  (n156 : Int), ∃ (p157 : Option Addr), ∃ (k158 : Nat), ∃ (k159 : Nat), RowAt w150 k138 (k139 + n43.toNat * 7 + 1) [Value.int IntKind.i64 n152, Value.int IntKind.i64 n153, Value.int
  IntKind.i64 n154, Value.int IntKind.i64 n155, Value.int IntKind.i64 n156, Value.slice p157 k158 k159] ∧ Value.agg #[Value.int IntKind.i64 n152, Value.int IntKind.i64 n153, Value.int
  IntKind.i64 n154, Value.int IntKind.i64 n155, Value.int IntKind.i64 n156, Value.slice p157 k158 k159] = Value.agg #[Value.int IntKind.i64 n142, Value.int IntKind.i64 n143, Value.int
  IntKind.i64 n144, Value.int IntKind.i64 n145, Value.int IntKind.i64 n146, Value.slice p147 k148 k149]) ∧ ∃ (n160 : Int), ∃ (n161 : Int), ∃ (n162 : Int), ∃ (n163 : Int), ∃ (n164 : Int), ∃
  (p165 : Option Addr), ∃ (k166 : Nat), ∃ (k167 : Nat), (∀ (w168 : World) (R169 : List Own), Ctx W w168 (R134 ++ R169) Φ135 → ∃ (n170 : Int), ∃ (n171 : Int), ∃ (n172 : Int), ∃ (n173 : Int), ∃
  (n174 : Int), ∃ (p175 : Option Addr), ∃ (k176 : Nat), ∃ (k177 : Nat), RowAt w168 k140 (k141 + n43.toNat * 7 + 1) [Value.int IntKind.i64 n170, Value.int IntKind.i64 n171, Value.int
  IntKind.i64 n172, Value.int IntKind.i64 n173, Value.int IntKind.i64 n174, Value.slice p175 k176 k177] ∧ Value.agg #[Value.int IntKind.i64 n170, Value.int IntKind.i64 n171, Value.int
  IntKind.i64 n172, Value.int IntKind.i64 n173, Value.int IntKind.i64 n174, Value.slice p175 k176 k177] = Value.agg #[Value.int IntKind.i64 n160, Value.int IntKind.i64 n161, Value.int
  IntKind.i64 n162, Value.int IntKind.i64 n163, Value.int IntKind.i64 n164, Value.slice p165 k166 k167]) ∧ ∀ (w178 : World) (R179 : List Own), Ctx W w178 (R64 ++ R179) Φ65 → Calls Tryz.prog
  F.channel_Channel_Send #[Value.pointer p42, Value.agg #[Value.int IntKind.i64 n142, Value.int IntKind.i64 n143, Value.int IntKind.i64 n144, Value.int IntKind.i64 n145, Value.int IntKind.i64
  n146, Value.slice p147 k148 k149]] w178 fun (e180 : Ending) (w181 : World) => ∃ (n182 : Int), e180 = Ending.returned (Value.int IntKind.i64 n182) ∧ ∃ (R183 : List Own), ∃ (Φ184 : PW),
  Stable Φ184 ∧ Ctx W w181 (R183 ++ R179) Φ184 ∧ (∀ (w185 : World) (R186 : List Own), Ctx W w185 (R183 ++ R186) Φ184 → Ctx W w185 (R134 ++ R186) Φ135) ∧ ∀ (w187 : World) (R188 : List Own),
  Ctx W w187 (R183 ++ R188) Φ184 → Calls Tryz.prog F.errataref36_Channel_Send #[Value.pointer p18, Value.agg #[Value.int IntKind.i64 n160, Value.int IntKind.i64 n161, Value.int IntKind.i64
  n162, Value.int IntKind.i64 n163, Value.int IntKind.i64 n164, Value.slice p165 k166 k167]] w187 fun (e189 : Ending) (w190 : World) => ∃ (n191 : Int), e189 = Ending.returned (Value.int
  IntKind.i64 n191) ∧ ∃ (R192 : List Own), ∃ (Φ193 : PW), Stable Φ193 ∧ Ctx W w190 (R192 ++ R188) Φ193 ∧ ∃ (R194 : List Own), ∃ (Φ195 : PW), Stable Φ195 ∧ (∀ (w196 : World) (R197 : List Own),
  Ctx W w196 (R192 ++ R197) Φ193 → Ctx W w196 (R194 ++ R197) Φ195) ∧ Br (decide (n182 ≠ n191)) (∀ (w198 : World) (R199 : List Own), Ctx W w198 (R192 ++ R199) Φ193 → J (Value.bool false) w198)
  ((0 ≤ n43 ∧ n43 < (↑lN : Int)) ∧ ptrK none lP fun (k200 k201 : Nat) => (0 ≤ n43 ∧ n43 < (↑lN : Int)) ∧ ptrK none lP fun (k202 k203 : Nat) => ∃ (n204 : Int), ∃ (n205 : Int), ∃ (n206 : Int),
  ∃ (n207 : Int), ∃ (n208 : Int), ∃ (p209 : Option Addr), ∃ (k210 : Nat), ∃ (k211 : Nat), (∀ (w212 : World) (R213 : List Own), Ctx W w212 (R194 ++ R213) Φ195 → ∃ (n214 : Int), ∃ (n215 : Int),
  ∃ (n216 : Int), ∃ (n217 : Int), ∃ (n218 : Int), ∃ (p219 : Option Addr), ∃ (k220 : Nat), ∃ (k221 : Nat), RowAt w212 k200 (k201 + n43.toNat * 7 + 1) [Value.int IntKind.i64 n214, Value.int
  IntKind.i64 n215, Value.int IntKind.i64 n216, Value.int IntKind.i64 n217, Value.int IntKind.i64 n218, Value.slice p219 k220 k221] ∧ Value.agg #[Value.int IntKind.i64 n214, Value.int
  IntKind.i64 n215, Value.int IntKind.i64 n216, Value.int IntKind.i64 n217, Value.int IntKind.i64 n218, Value.slice p219 k220 k221] = Value.agg #[Value.int IntKind.i64 n204, Value.int
  IntKind.i64 n205, Value.int IntKind.i64 n206, Value.int IntKind.i64 n207, Value.int IntKind.i64 n208, Value.slice p209 k210 k211]) ∧ ∃ (n222 : Int), ∃ (n223 : Int), ∃ (n224 : Int), ∃ (n225
  : Int), ∃ (n226 : Int), ∃ (p227 : Option Addr), ∃ (k228 : Nat), ∃ (k229 : Nat), (∀ (w230 : World) (R231 : List Own), Ctx W w230 (R194 ++ R231) Φ195 → ∃ (n232 : Int), ∃ (n233 : Int), ∃ (n234
  : Int), ∃ (n235 : Int), ∃ (n236 : Int), ∃ (p237 : Option Addr), ∃ (k238 : Nat), ∃ (k239 : Nat), RowAt w230 k202 (k203 + n43.toNat * 7 + 1) [Value.int IntKind.i64 n232, Value.int IntKind.i64
  n233, Value.int IntKind.i64 n234, Value.int IntKind.i64 n235, Value.int IntKind.i64 n236, Value.slice p237 k238 k239] ∧ Value.agg #[Value.int IntKind.i64 n232, Value.int IntKind.i64 n233,
  Value.int IntKind.i64 n234, Value.int IntKind.i64 n235, Value.int IntKind.i64 n236, Value.slice p237 k238 k239] = Value.agg #[Value.int IntKind.i64 n222, Value.int IntKind.i64 n223,
  Value.int IntKind.i64 n224, Value.int IntKind.i64 n225, Value.int IntKind.i64 n226, Value.slice p227 k228 k229]) ∧ ∀ (w240 : World) (R241 : List Own), Ctx W w240 (R192 ++ R241) Φ193 → Calls
  Tryz.prog F.channel_Right #[Value.agg #[Value.int IntKind.i64 n204, Value.int IntKind.i64 n205, Value.int IntKind.i64 n206, Value.int IntKind.i64 n207, Value.int IntKind.i64 n208,
  Value.slice p209 k210 k211]] w240 fun (e242 : Ending) (w243 : World) => ∃ (c244 : Bool), e242 = Ending.returned (Value.bool c244) ∧ ∃ (R245 : List Own), ∃ (Φ246 : PW), Stable Φ246 ∧ Ctx W
  w243 (R245 ++ R241) Φ246 ∧ (∀ (w247 : World) (R248 : List Own), Ctx W w247 (R245 ++ R248) Φ246 → Ctx W w247 (R194 ++ R248) Φ195) ∧ ∀ (w249 : World) (R250 : List Own), Ctx W w249 (R245 ++
  R250) Φ246 → Calls Tryz.prog F.errataref36_Right #[Value.agg #[Value.int IntKind.i64 n222, Value.int IntKind.i64 n223, Value.int IntKind.i64 n224, Value.int IntKind.i64 n225, Value.int
  IntKind.i64 n226, Value.slice p227 k228 k229]] w249 fun (e251 : Ending) (w252 : World) => ∃ (c253 : Bool), e251 = Ending.returned (Value.bool c253) ∧ ∃ (R254 : List Own), ∃ (Φ255 : PW),
  Stable Φ255 ∧ Ctx W w252 (R254 ++ R250) Φ255 ∧ Br (c244 != c253) (∀ (w256 : World) (R257 : List Own), Ctx W w256 (R254 ++ R257) Φ255 → J (Value.bool false) w256) (∃ (R258 : List Own), ∃
  (Φ259 : PW), Stable Φ259 ∧ (∀ (w260 : World) (R261 : List Own), Ctx W w260 (R254 ++ R261) Φ255 → Ctx W w260 (R258 ++ R261) Φ259) ∧ I68 p42 R258 Φ259))))) ∧ ∀ (p262 : Option Addr) (R263 :
  List Own) (I264 : List Nat → World → Prop), Stable I264 → I68 p262 R263 I264 → ∃ (R265 : List Own), ∃ (Φ266 : PW), Stable Φ266 ∧ (∀ (w267 : World) (R268 : List Own), Ctx W w267 (R263 ++
  R268) I264 → Ctx W w267 (R265 ++ R268) Φ266) ∧ ptrK none p18 fun (k269 k270 : Nat) => ∃ (p271 : Option Addr), ∃ (k272 : Nat), ∃ (k273 : Nat), (∀ (w274 : World) (R275 : List Own), Ctx W w274
  (R265 ++ R275) Φ266 → ∃ (p276 : Option Addr), ∃ (k277 : Nat), ∃ (k278 : Nat), w274.cell? (Addr.mk k269 k270 none) = some (Value.slice p276 k277 k278) ∧ Value.slice p276 k277 k278 =
  Value.slice p271 k272 k273) ∧ ∀ (w279 : World) (R280 : List Own), Ctx W w279 (R263 ++ R280) I264 → Calls Tryz.prog F.channel_Channel_Len #[Value.pointer p262] w279 fun (e281 : Ending) (w282
  : World) => ∃ (n283 : Int), e281 = Ending.returned (Value.int IntKind.i64 n283) ∧ ∃ (R284 : List Own), ∃ (Φ285 : PW), Stable Φ285 ∧ Ctx W w282 (R284 ++ R280) Φ285 ∧ (∀ (w286 : World) (R287
  : List Own), Ctx W w286 (R284 ++ R287) Φ285 → Ctx W w286 (R265 ++ R287) Φ266) ∧ ∃ (R288 : List Own), ∃ (Φ289 : PW), Stable Φ289 ∧ (∀ (w290 : World) (R291 : List Own), Ctx W w290 (R284 ++
  R291) Φ285 → Ctx W w290 (R288 ++ R291) Φ289) ∧ Br (decide (n283 ≠ (↑k272 : Int))) (∃ (R292 : List Own), ∃ (Φ293 : PW), Stable Φ293 ∧ (∀ (w294 : World) (R295 : List Own), Ctx W w294 (R284 ++
  R295) Φ285 → Ctx W w294 (R292 ++ R295) Φ293) ∧ ∃ (R296 : List Own), ∃ (Φ297 : PW), Stable Φ297 ∧ (∀ (w298 : World) (R299 : List Own), Ctx W w298 (R284 ++ R299) Φ285 → Ctx W w298 (R296 ++
  R299) Φ297) ∧ ∃ (R300 : List Own), ∃ (Φ301 : PW), Stable Φ301 ∧ (∀ (w302 : World) (R303 : List Own), Ctx W w302 (R284 ++ R303) Φ285 → Ctx W w302 (R300 ++ R303) Φ301) ∧ ∀ (w304 : World)
  (R305 : List Own), Ctx W w304 (R284 ++ R305) Φ285 → J (Value.bool false) w304) (ptrK none p18 fun (k306 k307 : Nat) => ∃ (p308 : Option Addr), ∃ (k309 : Nat), ∃ (k310 : Nat), (∀ (w311 :
  World) (R312 : List Own), Ctx W w311 (R288 ++ R312) Φ289 → ∃ (p313 : Option Addr), ∃ (k314 : Nat), ∃ (k315 : Nat), w311.cell? (Addr.mk k306 k307 none) = some (Value.slice p313 k314 k315) ∧
  Value.slice p313 k314 k315 = Value.slice p308 k309 k310) ∧ I64 (4 - (↑k309 : Int)) ∧ ∀ (w316 : World) (R317 : List Own), Ctx W w316 (R284 ++ R317) Φ285 → Calls Tryz.prog
  F.channel_Channel_Free #[Value.pointer p262] w316 fun (e318 : Ending) (w319 : World) => ∃ (n320 : Int), e318 = Ending.returned (Value.int IntKind.i64 n320) ∧ ∃ (R321 : List Own), ∃ (Φ322 :
  PW), Stable Φ322 ∧ Ctx W w319 (R321 ++ R317) Φ322 ∧ (∀ (w323 : World) (R324 : List Own), Ctx W w323 (R321 ++ R324) Φ322 → Ctx W w323 (R288 ++ R324) Φ289) ∧ ∃ (R325 : List Own), ∃ (Φ326 :
  PW), Stable Φ326 ∧ (∀ (w327 : World) (R328 : List Own), Ctx W w327 (R321 ++ R328) Φ322 → Ctx W w327 (R325 ++ R328) Φ326) ∧ Br (decide (n320 ≠ 4 - (↑k309 : Int))) (∃ (R329 : List Own), ∃
  (Φ330 : PW), Stable Φ330 ∧ (∀ (w331 : World) (R332 : List Own), Ctx W w331 (R321 ++ R332) Φ322 → Ctx W w331 (R329 ++ R332) Φ330) ∧ ∃ (R333 : List Own), ∃ (Φ334 : PW), Stable Φ334 ∧ (∀ (w335
  : World) (R336 : List Own), Ctx W w335 (R321 ++ R336) Φ322 → Ctx W w335 (R333 ++ R336) Φ334) ∧ ∀ (w337 : World) (R338 : List Own), Ctx W w337 (R321 ++ R338) Φ322 → J (Value.bool false)
  w337) (ptrK none p18 fun (k339 k340 : Nat) => ∃ (n341 : Int), (∀ (w342 : World) (R343 : List Own), Ctx W w342 (R325 ++ R343) Φ326 → ∃ (n344 : Int), w342.cell? (Addr.mk k339 (k340 + 1) none)
  = some (Value.int IntKind.i64 n344) ∧ Value.int IntKind.i64 n344 = Value.int IntKind.i64 n341) ∧ ∀ (w345 : World) (R346 : List Own), Ctx W w345 (R321 ++ R346) Φ322 → Calls Tryz.prog
  F.channel_Channel_Sent #[Value.pointer p262] w345 fun (e347 : Ending) (w348 : World) => ∃ (n349 : Int), e347 = Ending.returned (Value.int IntKind.i64 n349) ∧ ∃ (R350 : List Own), ∃ (Φ351 :
  PW), Stable Φ351 ∧ Ctx W w348 (R350 ++ R346) Φ351 ∧ (∀ (w352 : World) (R353 : List Own), Ctx W w352 (R350 ++ R353) Φ351 → Ctx W w352 (R325 ++ R353) Φ326) ∧ ∃ (R354 : List Own), ∃ (Φ355 :
  PW), Stable Φ355 ∧ (∀ (w356 : World) (R357 : List Own), Ctx W w356 (R350 ++ R357) Φ351 → Ctx W w356 (R354 ++ R357) Φ355) ∧ Br (decide (n349 ≠ n341)) (∃ (R358 : List Own), ∃ (Φ359 : PW),
  Stable Φ359 ∧ (∀ (w360 : World) (R361 : List Own), Ctx W w360 (R350 ++ R361) Φ351 → Ctx W w360 (R358 ++ R361) Φ359) ∧ ∀ (w362 : World) (R363 : List Own), Ctx W w362 (R350 ++ R363) Φ351 → J
  (Value.bool false) w362) (ptrK none p18 fun (k364 k365 : Nat) => ∃ (p366 : Option Addr), ∃ (k367 : Nat), ∃ (k368 : Nat), (∀ (w369 : World) (R370 : List Own), Ctx W w369 (R354 ++ R370) Φ355
  → ∃ (p371 : Option Addr), ∃ (k372 : Nat), ∃ (k373 : Nat), w369.cell? (Addr.mk k364 k365 none) = some (Value.slice p371 k372 k373) ∧ Value.slice p371 k372 k373 = Value.slice p366 k367 k368)
  ∧ ∀ (w374 : World) (R375 : List Own), Ctx W w374 (R350 ++ R375) Φ351 → Calls Tryz.prog F.channel_Channel_List #[Value.pointer p262] w374 fun (e376 : Ending) (w377 : World) => ∃ (p378 :
  Option Addr), ∃ (k379 : Nat), ∃ (k380 : Nat), e376 = Ending.returned (Value.slice p378 k379 k380) ∧ ∃ (R381 : List Own), ∃ (Φ382 : PW), Stable Φ382 ∧ Ctx W w377 (R381 ++ R375) Φ382 ∧ (∀
  (w383 : World) (R384 : List Own), Ctx W w383 (R381 ++ R384) Φ382 → Ctx W w383 (R354 ++ R384) Φ355) ∧ ∀ (w385 : World) (R386 : List Own), Ctx W w385 (R381 ++ R386) Φ382 → Calls Tryz.prog
  F.errataref36_SameList #[Value.slice p378 k379 k380, Value.slice p366 k367 k368] w385 fun (e387 : Ending) (w388 : World) => ∃ (c389 : Bool), e387 = Ending.returned (Value.bool c389) ∧ ∃
  (R390 : List Own), ∃ (Φ391 : PW), Stable Φ391 ∧ Ctx W w388 (R390 ++ R386) Φ391 ∧ ∃ (R392 : List Own), ∃ (Φ393 : PW), Stable Φ393 ∧ (∀ (w394 : World) (R395 : List Own), Ctx W w394 (R390 ++
  R395) Φ391 → Ctx W w394 (R392 ++ R395) Φ393) ∧ Br (!c389) (∀ (w396 : World) (R397 : List Own), Ctx W w396 (R390 ++ R397) Φ391 → J (Value.bool false) w396) (∀ (w398 : World) (R399 : List
  Own), Ctx W w398 (R390 ++ R399) Φ391 → Calls Tryz.prog F.channel_Channel_Bytes #[Value.pointer p262] w398 fun (e400 : Ending) (w401 : World) => ∃ (s402 : ByteArray), e400 = Ending.returned
  (Value.string s402) ∧ ∃ (R403 : List Own), ∃ (Φ404 : PW), Stable Φ404 ∧ Ctx W w401 (R403 ++ R399) Φ404 ∧ (∀ (w405 : World) (R406 : List Own), Ctx W w405 (R403 ++ R406) Φ404 → Ctx W w405
  (R392 ++ R406) Φ393) ∧ ∀ (w407 : World) (R408 : List Own), Ctx W w407 (R403 ++ R408) Φ404 → Calls Tryz.prog F.errataref36_Channel_Bytes #[Value.pointer p18] w407 fun (e409 : Ending) (w410 :
  World) => ∃ (s411 : ByteArray), e409 = Ending.returned (Value.string s411) ∧ ∃ (R412 : List Own), ∃ (Φ413 : PW), Stable Φ413 ∧ Ctx W w410 (R412 ++ R408) Φ413 ∧ Br (decide (s402 ≠ s411)) (∀
  (w414 : World) (R415 : List Own), Ctx W w414 (R412 ++ R415) Φ413 → J (Value.bool false) w414) (I64 (n43 + 1) ∧ ∃ (R416 : List Own), ∃ (Φ417 : PW), ∃ (k418 : Nat), Stable Φ417 ∧ (∀ (w419 :
  World) (R420 : List Own), Ctx W w419 (R412 ++ R420) Φ413 → Ctx W w419 (R416 ++ R420) Φ417) ∧ I36 p262 (n43 + 1) R416 Φ417 k418 ∧ k418 < k46))))))) (∀ (w421 : World) (R422 : List Own), Ctx W
  w421 (R44 ++ R422) I45 → J (Value.bool c4) w421)))

theorem Merratalaw36_ChannelTells_run (lP : Option Addr) (lN lC : Nat) {W w : World} {R : List Own} {Φ : PW} [Stable Φ] {J : Value → World → Prop} (c : Ctx W w R Φ) (h : Merratalaw36_ChannelTells lP lN lC W R Φ J) : Calls Tryz.prog F.erratalaw36_ChannelTells #[.slice lP lN lC] w fun e w' => ∃ v, e = .returned v ∧ J v w' :=
  vcFS_sound (H := { keep := some [0, 2, 3, 4, 5, 6, 7, 8, 9, 10, 20, 29, 38, 45, 75, 76, 96, 97, 102, 147], track := [7, 9], stages := [(12, [.held [(0, true), (1, true), (2, true), (7, true), (8, true), (9, true), (3, true), (10, true), (4, true), (11, true), (5, true), (12, true), (6, false)], .stage [] (some 13), .held [(14, true), (15, true), (16, true), (17, true), (22, true), (23, true), (18, true), (24, true), (19, true), (25, true), (20, true), (26, true), (21, false)], .stage [] (some 27), .stage [28, 29] none]), (23, [.held [(0, true), (2, true), (3, true), (4, true), (5, true), (6, true), (1, false)], .held [(7, true), (8, true), (9, true), (11, true), (12, true), (13, true), (14, true), (15, true), (16, true), (10, false)], .held [(17, true), (18, true), (19, true), (20, true), (22, true), (23, true), (24, true), (25, true), (21, false)], .held [(26, true), (27, true), (28, true), (29, true), (31, true), (32, true), (33, true), (34, true), (30, false)], .stage [] (some 35), .held [(36, true), (37, true), (38, true), (39, true), (41, true), (40, false)], .stage [] (some 42), .stage [43, 44] none])], split := [4, 17], loops := [(7, [(4, .one (.ptr)), (6, .one (.int .i64))], [])], cuts := [(23, [(4, .one (.ptr))], [])] }) (by rw [show vcFS Tryz.prog W { keep := some [0, 2, 3, 4, 5, 6, 7, 8, 9, 10, 20, 29, 38, 45, 75, 76, 96, 97, 102, 147], track := [7, 9], stages := [(12, [.held [(0, true), (1, true), (2, true), (7, true), (8, true), (9, true), (3, true), (10, true), (4, true), (11, true), (5, true), (12, true), (6, false)], .stage [] (some 13), .held [(14, true), (15, true), (16, true), (17, true), (22, true), (23, true), (18, true), (24, true), (19, true), (25, true), (20, true), (26, true), (21, false)], .stage [] (some 27), .stage [28, 29] none]), (23, [.held [(0, true), (2, true), (3, true), (4, true), (5, true), (6, true), (1, false)], .held [(7, true), (8, true), (9, true), (11, true), (12, true), (13, true), (14, true), (15, true), (16, true), (10, false)], .held [(17, true), (18, true), (19, true), (20, true), (22, true), (23, true), (24, true), (25, true), (21, false)], .held [(26, true), (27, true), (28, true), (29, true), (31, true), (32, true), (33, true), (34, true), (30, false)], .stage [] (some 35), .held [(36, true), (37, true), (38, true), (39, true), (41, true), (40, false)], .stage [] (some 42), .stage [43, 44] none])], split := [4, 17], loops := [(7, [(4, .one (.ptr)), (6, .one (.int .i64))], [])], cuts := [(23, [(4, .one (.ptr))], [])] } F.erratalaw36_ChannelTells #[.slice lP lN lC] R Φ J = Merratalaw36_ChannelTells lP lN lC W R Φ J by kernel_rfl]; exact h) c

end Go.Proofs.YtfpgbejdlikpgaaGreatDoor
end

/-
  ChannelTells, walked.
-/
section
set_option linter.unusedVariables false
set_option linter.unusedSimpArgs false
namespace Go.Proofs.YtfpgbejdlikpgaaGreatDoor
open Go.Vc


def andZ (a m : Int) : Int := IntKind.i64.wrap (BitVec.ofInt 64 a &&& BitVec.ofInt 64 m).toNat
theorem and_run (a m : Int) (w : World) : Sem.run Tryz.prog (binOp BinOp.and 3 (.int .i64 a) (.int .i64 m)) w = .ok (.int .i64 (andZ a m)) w := rfl

/-- what is known while both channels hold the messages q -/
abbrev twoF (Φ : PW) (cs : List Value) (q : List MsgD) (first : Nat) (p : Option Addr) : PW := fun M w => (Φ M w ∧ Sl M w p q) ∧ ChanS cs q first M w
instance twoF_stable (Φ : PW) [Stable Φ] (cs : List Value) (q : List MsgD) (first : Nat) (p : Option Addr) : Stable (twoF Φ cs q first p) := @instStableAnd (fun M w => Φ M w ∧ Sl M w p q) (fun M w => ChanS cs q first M w) (instStableAnd Φ (fun M w => Sl M w p q)) (chanS_stable cs q first)

set_option maxHeartbeats 8000000 in
theorem Tells_in {Φ : PW} [Stable Φ] {p : Option Addr} {cap : Nat} {l : List OpD} (hT : ∀ M w, Φ M w → TabI M w) (hΦ : ∀ M w, Φ M w → Sl M w p l) (hl : l.length ≤ maxLen) :
    GivesIn Φ Tryz.prog F.erratalaw36_ChannelTells #[.slice p l.length cap] (.bool true) := by
  have hl : l.length ≤ 9223372036854775807 := Nat.le_trans hl (by decide)
  refine .pinned hΦ fun g o ms hp => ?_
  obtain ⟨Ψ, hΨ⟩ : ∃ Ψ : PW, Ψ = (fun M w => Φ M w ∧ Pin g o ms l M w) := ⟨_, rfl⟩
  have stΨ : Stable Ψ := by rw [hΨ]; exact instStableAnd Φ (fun M w => Pin g o ms l M w)
  have k0 : ∀ M w, Ψ M w → Φ M w := fun M w h => by rw [hΨ] at h; exact h.1
  have kp : ∀ M w, Ψ M w → Pin g o ms l M w := fun M w h => by rw [hΨ] at h; exact h.2
  rw [← hΨ]
  refine gives_in (Merratalaw36_ChannelTells_run p l.length cap) fun W R => fun w G cx => ?_
  have hcs : OpCells ms l := fun j hj => pin_op (kp _ _ cx.phi) hj
  refine (small_g.in).toB cx fun w G cx => ?_
  refine New_use cx fun b0 w cx => ⟨_, rfl, .blk b0 chan0 59 :: R, Ψ, stΨ, cx, fun w G cx => ?_⟩
  refine New36_use cx fun b2 w cx => ⟨_, rfl, .blk b0 chan0 59 :: rcO b2 none 0 [] 0 :: R, Ψ, stΨ, cx.swap, fun w G cx => ?_⟩
  refine (few_in (Φ := Ψ) p cap l 80 g o ms hp kp hcs hl).use cx fun v w ⟨bf, hbf, hb⟩ cx => ?_
  subst hbf
  refine ⟨bf, rfl, .blk b0 chan0 59 :: rcO b2 none 0 [] 0 :: R, Ψ, stΨ, cx, Br.intro (fun _ => fun w G cx => fun w G cx => ⟨rfl, cx.drop1.drop1.left⟩) (fun hf => Br.intro (fun h => by cases h) (fun _ => ?_))⟩
  have h80 := (hb (by simpa using hf)).2
  clear cx
  refine exI_mk (fun pS nI R' Φ' k => ∃ (i b : Nat) (cs : List Value) (q : List MsgD) (first sent : Nat) (rp : Option Addr) (rc : Nat), nI = i ∧ i ≤ l.length ∧ pS = some ⟨b, 0, none⟩ ∧ R' = .blk b cs 59 :: rcO b2 rp rc q sent :: R ∧ Φ' = twoF Ψ cs q first rp ∧ k = l.length - i ∧ ChanC cs q first sent ∧ (∀ m ∈ q, Good m) ∧ q.length ≤ rc ∧ sent ≤ i)
    ⟨⟨_, twoF Ψ chan0 [] 0 none, _, twoF_stable Ψ chan0 [] 0 none, fun w G cx => cx.weak fun M w h => ⟨⟨h, Sl.nil⟩, chan0_s M w⟩, 0, b0, chan0, [], 0, 0, none, 0, rfl, Nat.zero_le _, rfl, rfl, rfl, rfl, chan0_c, by simp, Nat.le_refl _, Nat.le_refl _⟩, ?_⟩
  rintro pS nI R1 Φ1 k _ ⟨i, b, cs, q, first, sent, rp, rc, rfl, hi, rfl, rfl, rfl, rfl, hc, hg, hqc, hs⟩
  have stX := twoF_stable Ψ cs q first rp
  have h4 := hc.count
  refine Br.intro (fun hlt => ?_) (fun hge => fun w G cx => ⟨rfl, cx.drop1.drop1.left.weak fun M w h => h.1.1⟩)
  have hlt : i < l.length := by have := of_decide_eq_true hlt; omega
  obtain ⟨mp, mc, he, hm1, hm2, hok⟩ := hcs i hlt
  have hpp := hp (by omega)
  refine ⟨⟨by omega, by omega⟩, ptrK_intro g o hpp fun w G cx => ⟨l[i].m.kind, l[i].m.node, l[i].m.inp, l[i].m.bucket, l[i].m.n, mp, l[i].m.deltas.length, mc, pin_opMsg (kp _ _ cx.phi.1.1) hlt he, fun w G cx => ?_⟩⟩
  have hmach : Mach l[i].m.deltas := sl_mach (pin_opSl (kp _ _ cx.phi.1.1) hlt he)
  refine (right_in (Φ := twoF Ψ cs q first rp) mp mc l[i].m (fun M w h => pin_opSl (kp _ _ h.1.1) hlt he) (len_max hm1 hm2)).use cx fun v w ⟨br, hbr⟩ cx => ?_
  subst hbr
  refine ⟨br, rfl, .blk b cs 59 :: rcO b2 rp rc q sent :: R, _, stX, cx, Br.intro (fun _ => fun w G cx => ⟨rfl, cx.drop1.drop1.left.weak fun M w h => h.1.1⟩) (fun _ => ?_)⟩
  clear cx
  refine exI_mk (fun pT R' Φ' => ∃ (b : Nat) (cs : List Value) (q : List MsgD) (first sent : Nat) (rp : Option Addr) (rc : Nat), pT = some ⟨b, 0, none⟩ ∧ R' = .blk b cs 59 :: rcO b2 rp rc q sent :: R ∧ Φ' = twoF Ψ cs q first rp ∧ ChanC cs q first sent ∧ (∀ m ∈ q, Good m) ∧ q.length ≤ rc ∧ sent ≤ i + 1) ⟨?_, ?_⟩
  · -- the operation
    refine ⟨⟨by omega, by omega⟩, ptrK_intro g o hpp fun w G cx => ⟨l[i].op, by have := pin_opAt (kp _ _ cx.phi.1.1) hlt he 0 (by simp); rw [Nat.add_zero] at this; exact this, andZ l[i].op 3, fun w => and_run l[i].op 3 w, Br.intro (fun _ => fun w G cx => ?_) (fun _ => Br.intro (fun _ => fun w G cx => ?_) (fun _ => ?_))⟩⟩
    · -- Take
      refine TakeE_use (S := rcO b2 rp rc q sent :: R ++ G) (Φ := fun M w => Ψ M w ∧ Sl M w rp q) cx hc fun p1 c1 w cs1 first1 hc1 cx => ?_
      have stA : Stable (fun M w => (Ψ M w ∧ ChanS cs1 q.tail first1 M w) ∧ Sl M w p1 (q.headD msg0).deltas) := @instStableAnd (fun M w => Ψ M w ∧ ChanS cs1 q.tail first1 M w) (fun M w => Sl M w p1 (q.headD msg0).deltas) (instStableAnd Ψ (fun M w => ChanS cs1 q.tail first1 M w)) inferInstance
      have stB : Stable (fun M w => ((Ψ M w ∧ ChanS cs1 q.tail first1 M w) ∧ Sl M w p1 (q.headD msg0).deltas) ∧ Sl M w rp q) := @instStableAnd (fun M w => (Ψ M w ∧ ChanS cs1 q.tail first1 M w) ∧ Sl M w p1 (q.headD msg0).deltas) (fun M w => Sl M w rp q) stA inferInstance
      refine ⟨_, _, _, _, _, p1, _, c1, _, rfl, .blk b cs1 59 :: rcO b2 rp rc q sent :: R, _, stB, cx.weak fun M w h => ⟨⟨⟨h.1.1.1, h.1.2⟩, h.2⟩, h.1.1.2⟩, fun _ w G cx => ?_⟩
      refine Take36_use (S := .blk b cs1 59 :: R ++ G) (Φ := fun M w => (Ψ M w ∧ ChanS cs1 q.tail first1 M w) ∧ Sl M w p1 (q.headD msg0).deltas) hqc h4 cx.swap (fun hq w cx => ?_) (fun m r hq m2 mc2 rp2 rc2 w hrc2 cx => ?_)
      · subst hq
        refine ⟨_, _, _, _, _, none, _, 0, _, rfl, .blk b cs1 59 :: rcO b2 rp rc [] sent :: R, _, stB, cx.swap, fun _ => Br.intro (fun h => absurd rfl (of_decide_eq_true h)) (fun _ => fun w G cx => ?_)⟩
        refine (Same_yes (m := msg0) (p := p1) (q := none) (c := c1) (d := 0) (fun M w h => h.1.2) (fun M w h => Sl.nil) (by simp) (by simp)).toB cx (Br.intro (fun h => by cases h) (fun _ => ⟨_, twoF Ψ cs1 [] first1 rp, twoF_stable Ψ cs1 [] first1 rp, fun w G cx => cx.weak fun M w h => ⟨⟨h.1.1.1, h.2⟩, h.1.1.2⟩, b, cs1, [], first1, sent, rp, rc, rfl, rfl, rfl, hc1, hg, hqc, by omega⟩))
      · subst hq
        have stC : Stable (fun M w => (((Ψ M w ∧ ChanS cs1 r first1 M w) ∧ Sl M w p1 m.deltas) ∧ Sl M w m2 m.deltas) ∧ Sl M w rp2 r) := @instStableAnd (fun M w => ((Ψ M w ∧ ChanS cs1 r first1 M w) ∧ Sl M w p1 m.deltas) ∧ Sl M w m2 m.deltas) (fun M w => Sl M w rp2 r) (@instStableAnd (fun M w => (Ψ M w ∧ ChanS cs1 r first1 M w) ∧ Sl M w p1 m.deltas) (fun M w => Sl M w m2 m.deltas) stA inferInstance) inferInstance
        have hgm := hg m (by simp)
        have hfit := right_fits hgm.right
        refine ⟨_, _, _, _, _, m2, _, mc2, _, rfl, .blk b cs1 59 :: rcO b2 rp2 rc2 r sent :: R, _, stC, cx.swap, fun _ => Br.intro (fun h => absurd rfl (of_decide_eq_true h)) (fun _ => fun w G cx => ?_)⟩
        refine (Same_yes (m := m) (p := p1) (q := m2) (c := c1) (d := mc2) (fun M w h => h.1.1.2) (fun M w h => h.1.2) (by omega) (fun x hx => by have := (hfit.2 x hx).1; omega)).toB cx (Br.intro (fun h => by cases h) (fun _ => ⟨_, twoF Ψ cs1 r first1 rp2, twoF_stable Ψ cs1 r first1 rp2, fun w G cx => cx.weak fun M w h => ⟨⟨h.1.1.1.1, h.2⟩, h.1.1.1.2⟩, b, cs1, r, first1, sent, rp2, rc2, rfl, rfl, rfl, hc1, fun x hx => hg x (by simp [hx]), hrc2, by omega⟩))
    · -- Copy
      refine Copy_use (S := rcO b2 rp rc q sent :: R ++ G) cx hc fun b' w cx => ⟨_, rfl, .blk b' cs 59 :: rcO b2 rp rc q sent :: R, _, stX, cx.sub (List.Sublist.cons_cons _ (List.sublist_cons_self _ _)), Br.intro (fun h => by cases h) (fun _ => ⟨_, _, stX, fun w G cx => cx, b', cs, q, first, sent, rp, rc, rfl, rfl, rfl, hc, hg, hqc, by omega⟩)⟩
    · -- Send
      have stP : Stable (fun M w => Pin g o ms l M w) := inferInstance
      have rd1 : ∀ (w : World) (G : List Own), Ctx W w ([] ++ G) (fun M w => Pin g o ms l M w) → ∃ n1 n2 n3 n4 n5 p1 k1 k2, RowAt w g (o + i * 7 + 1) [.int .i64 n1, .int .i64 n2, .int .i64 n3, .int .i64 n4, .int .i64 n5, .slice p1 k1 k2] ∧ Value.agg #[.int .i64 n1, .int .i64 n2, .int .i64 n3, .int .i64 n4, .int .i64 n5, .slice p1 k1 k2] = l[i].m.v mp mc := fun w G cx => ⟨_, _, _, _, _, _, _, _, pin_opMsg cx.phi hlt he, rfl⟩
      have keepP : ∀ {w : World} {G Q : List Own} {X : PW} [Stable X], (∀ M w, X M w → Pin g o ms l M w) → Ctx W w (Q ++ G) X → Ctx W w ([] ++ G) (fun M w => Pin g o ms l M w) := fun hX cx => (Ctx.right cx).weak fun M w h => hX M w h
      refine ⟨[], fun M w => Pin g o ms l M w, stP, fun w G cx => keepP (fun M w h => kp _ _ h.1.1) cx, ⟨by omega, by omega⟩, ptrK_intro g o hpp ⟨⟨by omega, by omega⟩, ptrK_intro g o hpp ⟨l[i].m.kind, l[i].m.node, l[i].m.inp, l[i].m.bucket, l[i].m.n, mp, _, mc, fun w G cx => rd1 w G cx, l[i].m.kind, l[i].m.node, l[i].m.inp, l[i].m.bucket, l[i].m.n, mp, _, mc, fun w G cx => rd1 w G cx, fun w G cx => ?_⟩⟩⟩
      refine SendE_use (S := rcO b2 rp rc q sent :: R ++ G) (Φ := fun M w => Ψ M w ∧ Sl M w rp q) (m := l[i].m) cx hc (fun M w h => pin_opSl (kp _ _ h.1) hlt he) hok (len_max hm1 hm2) (by omega) fun e1 cs1 q1 n1 w hR hc1 cx => ?_
      have stA : Stable (fun M w => Ψ M w ∧ ChanS cs1 q1 first M w) := instStableAnd Ψ (fun M w => ChanS cs1 q1 first M w)
      have stB : Stable (fun M w => (Ψ M w ∧ ChanS cs1 q1 first M w) ∧ Sl M w rp q) := @instStableAnd (fun M w => Ψ M w ∧ ChanS cs1 q1 first M w) (fun M w => Sl M w rp q) stA inferInstance
      refine ⟨e1, rfl, .blk b cs1 59 :: rcO b2 rp rc q sent :: R, _, stB, cx.weak fun M w h => ⟨⟨h.1.1, h.2⟩, h.1.2⟩, fun w G cx => keepP (fun M w h => kp _ _ h.1.1) cx, fun w G cx => ?_⟩
      refine Send36_use (S := .blk b cs1 59 :: R ++ G) (Φ := fun M w => Ψ M w ∧ ChanS cs1 q1 first M w) h4 hqc (fun M w h => pin_opSl (kp _ _ h.1) hlt he) hok (len_max hm1 hm2) (by omega) cx.swap fun e2 q2 n2 rp2 rc2 w hR2 h42 hrc2 cx => ?_
      obtain ⟨re, rq, rn⟩ := hR.det hR2
      subst re rq rn
      obtain ⟨hg2, hs2, hs3, _⟩ := hR.good hg hok hmach
      have stC : Stable (fun M w => (Ψ M w ∧ ChanS cs1 q2 first M w) ∧ Sl M w rp2 q2) := @instStableAnd (fun M w => Ψ M w ∧ ChanS cs1 q2 first M w) (fun M w => Sl M w rp2 q2) stA inferInstance
      refine ⟨e2, rfl, .blk b cs1 59 :: rcO b2 rp2 rc2 q2 n2 :: R, _, stC, cx.swap, [], fun M w => Pin g o ms l M w, stP, fun w G cx => keepP (fun M w h => kp _ _ h.1.1) cx, Br.intro (fun h => absurd rfl (of_decide_eq_true h)) (fun _ => ⟨⟨by omega, by omega⟩, ptrK_intro g o hpp ⟨⟨by omega, by omega⟩, ptrK_intro g o hpp ⟨l[i].m.kind, l[i].m.node, l[i].m.inp, l[i].m.bucket, l[i].m.n, mp, _, mc, fun w G cx => rd1 w G cx, l[i].m.kind, l[i].m.node, l[i].m.inp, l[i].m.bucket, l[i].m.n, mp, _, mc, fun w G cx => rd1 w G cx, fun w G cx => ?_⟩⟩⟩)⟩
      refine (Right_in mp mc l[i].m (fun M w h => pin_opSl (kp _ _ h.1.1) hlt he) (len_max hm1 hm2)).toB cx ⟨fun w G cx => keepP (fun M w h => kp _ _ h.1.1) cx, fun w G cx => ?_⟩
      refine (rRight_in mp mc l[i].m (fun M w h => pin_opSl (kp _ _ h.1.1) hlt he) (len_max hm1 hm2)).toB cx (Br.intro (fun h => by rw [bne_self_eq_false] at h; cases h) (fun _ => ⟨_, twoF Ψ cs1 q2 first rp2, twoF_stable Ψ cs1 q2 first rp2, fun w G cx => cx.weak fun M w h => ⟨⟨h.1.1, h.2⟩, h.1.2⟩, b, cs1, q2, first, n2, rp2, rc2, rfl, rfl, rfl, hc1, hg2, hrc2, by omega⟩))
  -- both are compared
  clear hc hg hqc hs h4 stX
  rintro pT R2 Φ2 _ ⟨b, cs, q, first, sent, rp, rc, rfl, rfl, rfl, hc, hg, hqc, hs⟩
  have stX := twoF_stable Ψ cs q first rp
  have h4 := hc.count
  have keep : ∀ {w : World} {G : List Own} {X : PW} [Stable X], Ctx W w ((.blk b cs 59 :: rcO b2 rp rc q sent :: R) ++ G) X → Ctx W w ([rcO b2 rp rc q sent] ++ G) (fun _ _ => True) := fun cx => (Ctx.sub cx (List.Sublist.cons _ (((List.nil_sublist _).cons_cons _).append_right _))).weak fun _ _ _ => trivial
  have keep0 : ∀ {w : World} {G Q : List Own} {X : PW} [Stable X], Ctx W w (Q ++ G) X → Ctx W w ([] ++ G) (fun _ _ => True) := fun cx => (Ctx.right cx).weak fun _ _ _ => trivial
  have get0 : ∀ (w : World) (G : List Own), Ctx W w ([rcO b2 rp rc q sent] ++ G) (fun _ _ => True) → ∃ p1 k1 k2, w.cell? (Addr.mk b2 0 none) = some (Value.slice p1 k1 k2) ∧ Value.slice p1 k1 k2 = Value.slice rp q.length rc := fun w G cx => ⟨_, _, _, cx.get 0 rfl rfl, rfl⟩
  refine ⟨[rcO b2 rp rc q sent], fun _ _ => True, inferInstance, fun w G cx => keep cx, ptrK_intro b2 0 rfl ⟨rp, q.length, rc, get0, fun w G cx => Len_use cx (i := 0) rfl hc.c25 fun w cx => ⟨_, rfl, .blk b cs 59 :: rcO b2 rp rc q sent :: R, _, stX, cx, fun w G cx => keep cx, [rcO b2 rp rc q sent], fun _ _ => True, inferInstance, fun w G cx => keep cx, Br.intro (fun h => absurd rfl (of_decide_eq_true h)) (fun _ => ?_)⟩⟩⟩
  refine ptrK_intro b2 0 rfl ⟨rp, q.length, rc, get0, by unfold I64; omega, fun w G cx => Free_use cx (i := 0) rfl hc.c25 (by omega) (by omega) fun w cx => ⟨_, rfl, .blk b cs 59 :: rcO b2 rp rc q sent :: R, _, stX, cx, fun w G cx => keep cx, [rcO b2 rp rc q sent], fun _ _ => True, inferInstance, fun w G cx => keep cx, Br.intro (fun h => absurd rfl (of_decide_eq_true h)) (fun _ => ?_)⟩⟩
  refine ptrK_intro b2 0 rfl ⟨(sent : Int), fun w G cx => ⟨_, cx.get 0 rfl rfl, rfl⟩, fun w G cx => Sent_use cx (i := 0) rfl hc.c26 fun w cx => ⟨_, rfl, .blk b cs 59 :: rcO b2 rp rc q sent :: R, _, stX, cx, fun w G cx => keep cx, [rcO b2 rp rc q sent], fun _ _ => True, inferInstance, fun w G cx => keep cx, Br.intro (fun h => absurd rfl (of_decide_eq_true h)) (fun _ => ?_)⟩⟩
  refine ptrK_intro b2 0 rfl ⟨rp, q.length, rc, get0, fun w G cx => ?_⟩
  refine List_use (S := rcO b2 rp rc q sent :: R ++ G) cx hc (fun M w h => h.2) fun p3 cap3 w hcap cx => ?_
  have stY : Stable (fun M w => twoF Ψ cs q first rp M w ∧ Sl M w p3 q) := @instStableAnd (twoF Ψ cs q first rp) (fun M w => Sl M w p3 q) stX inferInstance
  refine ⟨p3, _, cap3, rfl, .blk b cs 59 :: rcO b2 rp rc q sent :: R, _, stY, cx, fun w G cx => keep cx, fun w G cx => ?_⟩
  refine (rSameList_in p3 rp cap3 rc q (fun M w h => h.2) (fun M w h => h.1.1.2) (by omega)).toB cx ⟨[], fun _ _ => True, inferInstance, fun w G cx => keep0 cx, Br.intro (fun h => by cases h) (fun _ => fun w G cx => ?_)⟩
  refine BytesC_use (S := rcO b2 rp rc q sent :: R ++ G) (fun M w h => hT _ _ (k0 _ _ h.1.1.1)) cx hc (fun M w h => h.1.2) hg (by omega) fun w cx => ⟨_, rfl, .blk b cs 59 :: rcO b2 rp rc q sent :: R, _, stY, cx, fun w G cx => keep0 cx, fun w G cx => ?_⟩
  refine Bytes36_use (S := .blk b cs 59 :: R ++ G) cx.swap h4 (fun M w h => h.1.1.2) hg (by omega) fun w cx => ⟨_, rfl, .blk b cs 59 :: rcO b2 rp rc q sent :: R, _, stY, cx.swap, Br.intro (fun h => absurd rfl (of_decide_eq_true h)) (fun _ => ⟨by unfold I64; omega, _, _, l.length - (i + 1), stX, fun w G cx => cx.weak fun M w h => h.1, ⟨i + 1, b, cs, q, first, sent, rp, rc, by omega, hlt, rfl, rfl, rfl, rfl, hc, hg, hqc, hs⟩, by omega⟩)⟩
end Go.Proofs.YtfpgbejdlikpgaaGreatDoor
end

/-
  From what a row lists as laid to the table of the powers of ten.
-/
section
set_option linter.unusedVariables false
set_option linter.unusedSimpArgs false
namespace Go.Proofs.YtfpgbejdlikpgaaGreatDoor
open Go.Vc Go.RowKit

theorem tab_drop {P : Program} {w : World} : ∀ (n : Nat) {l : List (String × DataW Unit)}, laidMet P l w → laidMet P (l.drop n) w
  | 0, l, h => by rw [List.drop_zero]; exact h
  | n + 1, [], h => h
  | n + 1, x :: l, h => by rw [List.drop_succ_cons]; exact tab_drop n h.tail
/-- the table, out of a list that has it at the n-th place -/
theorem la_tab {W : World} {l : List (String × DataW Unit)} (n : Nat) (h : laidMetH Tryz.prog l W) (hp : (l.all fun x => x.2.handleName?.isNone) = true) (hd : ∃ r, l.drop n = ("internal/strconv.uint64pow10", Lib.tabData .u64 Lib.pow10Tab) :: r) : TabI [] W := by
  rw [MakeChecks.laidMetH_plain Tryz.prog l W hp] at h
  obtain ⟨r, hr⟩ := hd
  have h2 := tab_drop n h
  rw [hr] at h2
  exact Tab.start (Lib.tabIs_of_head (k := .u64) (zs := Lib.pow10Tab) (g := 0) (t := 153) (e := 137) (n := 20) (by kernel_rfl) (by kernel_rfl) (by kernel_rfl) (by kernel_rfl) (by kernel_rfl) (by kernel_rfl) h2)

end Go.Proofs.YtfpgbejdlikpgaaGreatDoor
end

section
set_option linter.unusedVariables false
set_option linter.unusedSimpArgs false
namespace Go.Proofs.YtfpgbejdlikpgaaGreatDoor
open Go.ChangeShapes Go.WideShapes Go.ChangeAt Go.RowKit Go.Vc


theorem df_own : ownKnob Tryz.prog.godebug = none := by kernel_rfl
theorem df_laid : laidOutB Tryz.prog = true := by kernel_rfl

theorem trodAll_n {H : Type} {enc : TypeId × Value → H} {P : Program} {w : World} {base : Nat} {spare : Nat → Bool} {held : Bool} {t0 : TypeId} {args : Array Value} {ds : List (DataW H)} {ps : List MemPlace} (h : DataW.TrodAll enc P w base spare held [t0] args.toList ds ps) :
    ∃ v0 d0 p0, args = #[v0] ∧ ds = [d0] ∧ ps = p0 ∧ DataW.Trod enc P w base spare held t0 v0 d0 p0 := by
  obtain ⟨v0, vs0, d0, ds0, p0, q0, hargs, rfl, rfl, h0, h⟩ := trodAll_cons h
  obtain ⟨rfl, rfl, rfl⟩ := trodAll_nil h
  exact ⟨v0, d0, p0, by cases args; simp_all, rfl, by simp, h0⟩

theorem door_met (os : Os) (args : Array Value) : laidMetH Tryz.prog Rows.channelTellsRow.laid ((World.doorLaid Tryz.prog 400 os).forCall (fun _ _ => 0) ⟨#[], args, []⟩).memory :=
  laidMetH_of_parts3 (fuel := 8) (laidMet_of_run' 8 (by kernel_rfl) (by kernel_rfl)) (by kernel_rfl) (by kernel_rfl)

set_option maxRecDepth 100000 in
theorem law_lifted (os : Os) (started : os.Started) (H : Type) (enc : TypeId × Value → H) :
    ReturnsInHanded {} Tryz.checked os 3 .any (fun w args => (Rows.channelTellsSpec.pre enc Tryz.prog Tryz.f3 Rows.channelTellsRow.domain false w args ∧ laidMetH Tryz.prog Rows.channelTellsRow.laid w) ∧ sizedMet enc Tryz.prog Tryz.f3 (OpenSpec.ofChange Rows.channelTellsSpec) false w args) (Rows.channelTellsSpec.post enc Tryz.prog Tryz.f3 false true false false) := by
  refine lawTrueLaid (C := Tryz.checked) (tb := 4) df_own started (by kernel_rfl) Tryz.func3 df_laid rfl ?_ rfl Tryz.underlying4 (by kernel_rfl)
    (ChangeSpec.witness_shaped (enc := enc) (C := Tryz.checked) (os := os) (X := fun w _ => laidMetH Tryz.prog Rows.channelTellsRow.laid w) false (World.doorLaid Tryz.prog 400 os) #[.slice none 0 0] 8 rfl (World.shaped_of_RefB (by kernel_rfl) (by kernel_rfl)) (by kernel_rfl) (by kernel_rfl) (by kernel_rfl) (door_met os _)) ?_
  · intro ds hd
    match ds, hd with
    | [_], _ => exact ⟨rfl, rfl, rfl⟩
  · intro W base args ds p hval0 hA0 _ hL
    have hval : ∀ (j : Nat) t v, Tryz.f3.params[j]? = some t → args[j]? = some v → Value.okWide Tryz.prog W .any base t v := hval0
    have hA : DataW.TrodAll enc Tryz.prog W 0 (fun _ => true) true Tryz.f3.params.toList args.toList ds p := hA0
    rw [Tryz.params3] at hA hval
    obtain ⟨v0, d0, p0, rfl, rfl, rfl, h0⟩ := trodAll_n hA
    obtain ⟨lp, lc, l, rfl, la, lb, s0⟩ := open_sl (α := OpD) 12 Tryz.underlying22 (hval 0 22 v0 rfl rfl) (by kernel_rfl) h0
    have st0 : Stable (fun M w => Sl M w lp l) := inferInstance
    have st1 : Stable (fun M w => TabI M w ∧ Sl M w lp l) := instStableAnd (fun M w => TabI M w) (fun M w => Sl M w lp l)
    have fin : GivesIn (fun M w => TabI M w ∧ Sl M w lp l) Tryz.prog 3 _ (.bool true) := Tells_in (Φ := (fun M w => TabI M w ∧ Sl M w lp l)) (p := lp) (cap := lc) (l := l) (fun _ _ h => h.1) (fun _ _ h => h.2) (by omega)
    exact fin.law ⟨la_tab 2 hL (by kernel_rfl) ⟨_, rfl⟩, s0⟩

theorem row_holds : Rows.ChannelTellsSaid :=
  OpenClaim.holds_of_wide 3 Tryz.f3 rfl rfl rfl rfl rfl rfl rfl ⟨rfl, rfl, rfl, rfl, rfl⟩ rfl rfl rfl rfl rfl (by kernel_rfl) Tryz.func3 (by kernel_rfl)
    (of_decide_eq_true (by kernel_rfl)) (by unfold Func.isWrapper; first | (rw [if_pos (by decide +kernel)]; kernel_rfl) | (rw [if_neg (by decide +kernel)]; exact ⟨rfl, rfl⟩))
    (fun os started H enc _ => law_lifted os started H enc)

theorem tells_holds : Rows.ChannelTellsCardSaid :=
  Claim7.holds_tied_plain_at .later [] [.data, .data, .data] true Rows.channelTellsCard.stood.harness true
    row_holds (fun _ h => by cases h) (by kernel_rfl) (fun _ h => by cases h) channelTells_row_tie rfl ⟨rfl, rfl⟩ (by kernel_rfl) rfl
    (fun f fn hf hfn => by
      obtain rfl : f = 3 := Option.some.inj ((show Tryz.prog.funcNamed Rows.channelTellsRow.func = some 3 by kernel_rfl).symm.trans hf) |>.symm
      obtain rfl : fn = Tryz.f3 := (Option.some.inj (Tryz.func3.symm.trans hfn)).symm
      exact ⟨by kernel_rfl, fun j t ht => by
        rw [Tryz.params3] at ht
        have hm := Array.mem_of_getElem? ht
        have hall : ((Tryz.f3.params.toList).all fun u => !Tryz.prog.wantsStandIn u) = true := by kernel_rfl
        rw [Tryz.params3] at hall
        exact (show Tryz.prog.wantsStandIn t = false by simpa using List.all_eq_true.1 hall t (by simpa using hm))⟩)
    (by kernel_rfl)

end Go.Proofs.YtfpgbejdlikpgaaGreatDoor
end

