/-
  For every input erratalaw29.StoreTells returns true, does not panic, comes to an end, and leaves what came in as it was; the variables that its row lists are as the program's text lays them.
  Conditions: none beyond the given statement's own (StoreTellsCardSaid).
-/
import Derived.Test.YtebnciehcnedjaaGreatDoorSTl10
import Derived.Test.YtebnciehcnedjaaGreatDoorSTl8
import Derived.Test.YtebnciehcnedjaaGreatDoorSTl9
import Derived.Test.YtebnciehcnedjaaGreatDoorCards
import Derived.MakeChecks
import Derived.Stop.LaidErr
import Derived.Lib.LaidTab
import Derived.Test.YtebnciehcnedjaaGreatDoorTie
import Derived.SevenTiedAt
import Derived.LaidMore
import Derived.ChangeMaps5
import Derived.Test.YtebnciehcnedjaaGreatDoorRows

set_option linter.unusedVariables false
set_option linter.unusedSimpArgs false
section
namespace Go.Proofs.YtebnciehcnedjaaGreatDoor
open Go.Vc
theorem since_drop : ∀ (l : List ChgD) (c n : Int), (∀ j (h : j < l.length), l[j].seq = c + 1 + j) → l.filter (fun x => decide (n < x.seq)) = l.drop (n - c).toNat
  | [], _, _, _ => by simp
  | x :: t, c, n, h => by
    have hx : x.seq = c + 1 + (0 : Nat) := h 0 (by simp)
    have ht : ∀ j (h : j < t.length), t[j].seq = (c + 1) + 1 + j := fun j hj => by
      have h2 : t[j].seq = c + 1 + ((j + 1 : Nat) : Int) := h (j + 1) (by simp only [List.length_cons]; omega)
      rw [h2]
      omega
    have ih := since_drop t (c + 1) n ht
    rcases Int.lt_or_le n (c + 1) with h1 | h1
    · have e0 : (n - c).toNat = 0 := by omega
      have e1 : (n - (c + 1)).toNat = 0 := by omega
      rw [List.filter_cons_of_pos (p := fun x : ChgD => decide (n < x.seq)) (decide_eq_true (by omega)), ih, e0, e1, List.drop_zero, List.drop_zero]
    · have e0 : (n - c).toNat = (n - (c + 1)).toNat + 1 := by omega
      rw [List.filter_cons_of_neg (p := fun x : ChgD => decide (n < x.seq)) (by show ¬ decide (n < x.seq) = true; rw [decide_eq_false (by omega)]; simp), ih, e0, List.drop_succ_cons]
theorem filter_snoc {α : Type} (f : α → Bool) (l : List α) {i : Nat} (h : i < l.length) : (l.take (i + 1)).filter f = (l.take i).filter f ++ (if f l[i] = true then [l[i]] else []) := by
  rw [List.take_succ_eq_append_getElem h, List.filter_append]
  congr 1
  by_cases hp : f l[i] = true
  · rw [if_pos hp, List.filter_cons_of_pos hp]; rfl
  · rw [if_neg hp, List.filter_cons_of_neg hp]; rfl
theorem app_chg {W w : World} {S : List Own} {Φ : PW} [Stable Φ] {p : Option Addr} {n c b : Nat} {gs : List Value} {l : List ChgD} {x : ChgD} (hl : n < 10000000) (hx : I64 x.seq ∧ x.key.size ≤ maxLen ∧ x.val.size ≤ maxLen) (cx : Ctx W w (.blk b x.cells 46 :: .buf p n c gs 46 3 :: S) (fun M w => Φ M w ∧ Elems M w gs l)) :
    ∃ p' c' w', Sem.run Tryz.prog (builtin Builtin.append #[31, 31] 31 #[false, false] #[.slice p n c, .slice (some ⟨b, 0, none⟩) 1 1]) w = .ok (.value (.slice p' (n + 1) c')) w' ∧ Ctx W w' (.buf p' (n + 1) c' (gs ++ x.cells) 46 3 :: S) (fun M w => Φ M w ∧ Elems M w (gs ++ x.cells) (l ++ [x])) := by
  have st0 : Stable (fun M w => Φ M w ∧ Elems M w gs l) := instStableAnd Φ (fun M w => Elems M w gs l)
  obtain ⟨p', c', w', hr, _, cx3⟩ := cx.app1 (ts := 31) (ty := 31) (kb := #[false, false]) (bytes := 40) (P := Tryz.prog) (by kernel_rfl) (by omega) rfl rfl (by omega) (by omega)
  exact ⟨p', c', w', hr, cx3.weak fun M w h => ⟨h.1, h.2.snoc (chgD_rep hx.1 hx.2.1 hx.2.2)⟩⟩
theorem sl_chgIn {M : List Nat} {w : World} {p : Option Addr} {l : List ChgD} (h : Sl M w p l) : ∀ x ∈ l, I64 x.seq ∧ x.key.size ≤ maxLen ∧ x.val.size ≤ maxLen := fun x hx => by
  obtain ⟨j, hj, rfl⟩ := List.getElem_of_mem hx
  obtain ⟨_, _, cs, _, _, _, h4⟩ := h j hj
  obtain ⟨_, _, rfl, ⟨rfl, h1⟩, _, _, rfl, ⟨rfl, h2⟩, rfl, h3⟩ := h4
  exact ⟨h1, h2, h3⟩
section
variable {Φ : PW} {q : RO} {s : StD} {lg : Nat}
set_option maxHeartbeats 2000000 in
theorem Versions29_in [Stable Φ] [hΦ : Has Φ (RfR q s lg)] (hB : RfB q s lg) : GivesIn Φ Tryz.prog F.errataref29_Store_Versions #[.pointer (some ⟨q.sb, 0, none⟩)] (.int .i64 ((verP s).length : Int)) := by
  have hver := hB.ver
  have hnum := hB.num
  have hvl : (verP s).length = s.table.length + (allRuns s.levels).length := List.length_append
  refine gives_in (Berrataref29_Store_Versions_run q.sb 0) fun W R => fun w G cx => ⟨q.tp, s.table.length, q.tc, by
    have := (hΦ.go _ _ cx.phi).1.1.2.1 0 (by show 0 < 5; decide)
    rwa [Nat.zero_add] at this, ?_⟩
  clear cx
  refine fun w G cx => (Runs29_sl (Φ := Φ) hB).use cx fun p3 c3 w _ _ cx => ?_
  obtain ⟨b3, o3, cs3, hp3, cx⟩ := cx.pin cx.phi.2
  have hth3 := cx.phi.1.2.there
  have hin : ∀ j (hj : j < (runsL s).length), ∃ pj cj, cs3.getD j [] = [.slice pj s.levels[j]!.length cj] ∧ There pj s.levels[j]!.length := fun j hj => by
    obtain ⟨h2, e⟩ := runsL_at hj
    obtain ⟨pj, cj, ej⟩ := pinl cx.phi.2 hj
    have hsl := pinl_sl cx.phi.2 hj ej
    rw [e, List.length_map] at ej
    rw [e] at hsl
    have ht := hsl.there
    rw [List.length_map] at ht
    rw [getElem!_pos s.levels j h2]
    exact ⟨pj, cj, ej, ht⟩
  obtain ⟨Ψ4, hΨ4⟩ : ∃ Ψ4 : PW, Ψ4 = (fun M w => (Φ M w ∧ Sl M w p3 (runsL s)) ∧ Pin b3 o3 cs3 (runsL s) M w) := ⟨_, rfl⟩
  have st4 : Stable Ψ4 := by rw [hΨ4]; exact instStableAnd (fun M w => Φ M w ∧ Sl M w p3 (runsL s)) (fun M w => Pin b3 o3 cs3 (runsL s) M w)
  have k1 : ∀ M w, Ψ4 M w → Φ M w := fun M w h => by rw [hΨ4] at h; exact h.1.1
  have k2 : ∀ M w, Ψ4 M w → Pin b3 o3 cs3 (runsL s) M w := fun M w h => by rw [hΨ4] at h; exact h.2
  rw [← hΨ4] at cx
  have hrl := runsL_len s
  have hll := lastN_le s.levels
  refine ⟨p3, _, c3, rfl, R, Ψ4, st4, cx, ?_⟩
  clear cx
  have hallt : ∀ j, (allRuns (s.levels.take j)).length ≤ (allRuns s.levels).length := fun j => by
    have h2 : (allRuns s.levels) = allRuns (s.levels.take j) ++ allRuns (s.levels.drop j) := by rw [← all_app, List.take_append_drop]
    rw [h2, List.length_append]
    omega
  refine exI_mk (fun all nI R' Φ' k => ∃ j : Nat, nI = j ∧ j ≤ (runsL s).length ∧ all = ((s.table.length + (allRuns (s.levels.take j)).length : Nat) : Int) ∧ R' = R ∧ Φ' = Ψ4 ∧ k = (runsL s).length - j)
    ⟨⟨R, Ψ4, _, st4, fun w G cx => cx, 0, rfl, Nat.zero_le _, rfl, rfl, rfl, rfl⟩, ?_⟩
  rintro all nI R2 Φ2 k2' _ ⟨j, rfl, hj, rfl, rfl, rfl, rfl⟩
  refine Br.intro (fun hltj => ?_) (fun hgej => fun w G cx => ?_)
  rotate_left
  · have hgej : j = lastN s.levels := by have := of_decide_eq_false hgej; omega
    subst hgej
    rw [rest_empty _ _ rfl, ← hvl]
    exact ⟨rfl, (cx.weak k1).left⟩
  have hltj : j < (runsL s).length := by have := of_decide_eq_true hltj; omega
  have hltl : j < s.levels.length := by omega
  obtain ⟨b3', o3', e3⟩ := hth3 (by omega)
  have hb3 := hp3 (by omega)
  rw [e3] at hb3
  cases hb3
  obtain ⟨pj, cj, ej, htj⟩ := hin j hltj
  rw [getElem!_pos s.levels j hltl] at ej htj
  obtain ⟨lv, hlv2⟩ : ∃ lv, s.levels[j] = lv := ⟨_, rfl⟩
  have hlvm : lv ∈ s.levels := by rw [← hlv2]; exact List.getElem_mem hltl
  have hwid := hB.wid lv hlvm
  have hatj := (runsL_at hltj).2
  rw [hlv2] at ej htj hatj
  have hsumj := sum_take hltl
  have hleA := hallt (j + 1)
  rw [hlv2] at hsumj
  refine exI_mk (fun all nI R' Φ' k => ∃ m : Nat, nI = m ∧ m ≤ lv.length ∧ all = ((s.table.length + ((allRuns (s.levels.take j)).length + (lv.take m).flatten.length) : Nat) : Int) ∧ R' = R2 ∧ Φ' = Φ2 ∧ k = lv.length - m)
    ⟨⟨R2, Φ2, _, st4, fun w G cx => cx, 0, rfl, Nat.zero_le _, rfl, rfl, rfl, rfl⟩, ?_⟩
  rintro all nI R3 Φ3 k3 _ ⟨m, rfl, hm, rfl, rfl, rfl, rfl⟩
  refine ⟨⟨by omega, by omega⟩, ptrK_intro _ _ e3 fun w G cx => ⟨pj, lv.length, cj, by rw [Int.toNat_natCast]; exact pinl_at (k2 _ _ cx.phi) hltj ej, Br.intro (fun hltm => ?_) (fun hgem => ?_)⟩⟩
  · have hltm : m < lv.length := by have := of_decide_eq_true hltm; omega
    obtain ⟨bj, oj, rfl⟩ := htj (by omega)
    have hcell : ∀ (w : World) (G : List Own), Ctx W w (R3 ++ G) Φ3 → w.cell? ⟨bj, oj + m, none⟩ = some (.int .i64 (lv[m].length : Int)) := fun w G cx => by
      have h1 := pinl_sl (k2 _ _ cx.phi) hltj ej
      rw [hatj] at h1
      obtain ⟨b5, o5, e5, h5⟩ := sl_int h1 (j := m) (by rw [List.length_map]; exact hltm)
      cases e5
      rw [List.getElem_map] at h5
      exact h5
    have hstep : (lv.take (m + 1)).flatten.length = (lv.take m).flatten.length + lv[m].length := by rw [fl_take lv hltm, List.length_append]
    have hfl : (lv.take (m + 1)).flatten.length ≤ lv.flatten.length := fl_le lv (m + 1)
    exact ⟨⟨by omega, by omega⟩, ptrK_intro _ _ e3 fun w G cx => ⟨_, lv.length, cj, by rw [Int.toNat_natCast]; exact pinl_at (k2 _ _ cx.phi) hltj ej, ⟨by omega, by omega⟩, ptrK_intro bj oj rfl fun w G cx => ⟨_, by rw [Int.toNat_natCast]; exact hcell w G cx, by unfold I64; omega, by unfold I64; omega, R3, Φ3, lv.length - (m + 1), st4, fun w G cx => cx, ⟨m + 1, by omega, by omega, by omega, rfl, rfl, rfl⟩, by omega⟩⟩⟩
  · have hgem : m = lv.length := by have := of_decide_eq_false hgem; omega
    subst hgem
    rw [List.take_length]
    exact ⟨by unfold I64; omega, R3, Φ3, (runsL s).length - (j + 1), st4, fun w G cx => cx, ⟨j + 1, by omega, by omega, by rw [hsumj], rfl, rfl, rfl⟩, by omega⟩
theorem Since29_no [Stable Φ] [hΦ : Has Φ (RfR q s lg)] (h0 : 0 ≤ s.cut) {n : Int} (h : n < s.cut ∨ s.seq < n) : GivesIn Φ Tryz.prog F.errataref29_Store_Since #[.pointer (some ⟨q.sb, 0, none⟩), .int .i64 n] (.tuple #[.slice none 0 0, .int .i64 3]) := by
  have row : ∀ (W w : World) (R G : List Own) (X : PW), (∀ M w, X M w → Φ M w) → Ctx W w (R ++ G) X → ∀ (i : Nat) (h : i < (rfRow q s).length), w.cell? ⟨q.sb, i, none⟩ = some (rfRow q s)[i] := fun W w R G X hX cx i h => by
    have := (hΦ.go _ _ (hX _ _ cx.phi)).1.1.2.1 i h
    rwa [Nat.zero_add] at this
  refine gives_in (Berrataref29_Store_Since_run q.sb 0 n) fun W R => fun w G cx => ⟨s.seq, fun _ => row _ _ _ _ _ (fun _ _ h => h) cx 2 (by show 2 < 5; decide), s.cut, fun _ => row _ _ _ _ _ (fun _ _ h => h) cx 4 (by show 4 < 5; decide), Br.intro (fun _ => fun w G cx => ⟨rfl, cx.left⟩) (fun h2 => ?_)⟩
  rw [Bool.or_eq_false_iff, Bool.or_eq_false_iff] at h2
  have := of_decide_eq_false h2.1.2
  have := of_decide_eq_false h2.2
  omega
set_option maxHeartbeats 1000000 in
theorem Since29_sl [Stable Φ] [hΦ : Has Φ (RfR q s lg)] (hL : StL s) (h0 : 0 ≤ s.cut) (hlg : s.log.length ≤ 1000000) (hgc : s.log.length ≤ q.gc) {n : Int} (h1 : s.cut ≤ n) (h2 : n ≤ s.seq) : GivesSl Φ Tryz.prog F.errataref29_Store_Since #[.pointer (some ⟨q.sb, 0, none⟩), .int .i64 n] (s.log.drop (n - s.cut).toNat) (fun v => .tuple #[v, .int .i64 0]) := by
  have row : ∀ (W w : World) (R G : List Own) (X : PW), (∀ M w, X M w → Φ M w) → Ctx W w (R ++ G) X → ∀ (i : Nat) (h : i < (rfRow q s).length), w.cell? ⟨q.sb, i, none⟩ = some (rfRow q s)[i] := fun W w R G X hX cx i h => by
    have := (hΦ.go _ _ (hX _ _ cx.phi)).1.1.2.1 i h
    rwa [Nat.zero_add] at this
  have hd := since_drop s.log s.cut n hL.num
  obtain ⟨l, hl⟩ : ∃ l, s.log = l := ⟨_, rfl⟩
  have rowG : ∀ (W w : World) (R G : List Own) (X : PW), (∀ M w, X M w → Φ M w) → Ctx W w (R ++ G) X → w.cell? ⟨q.sb, 3, none⟩ = some (.slice q.gp l.length q.gc) := fun W w R G X hX cx => by
    rw [← hl]
    exact row W w R G X hX cx 3 (by show 3 < 5; decide)
  rw [← hd, hl]
  rw [hl] at hlg hgc
  have hsl : ∀ M w, Φ M w → Sl M w q.gp l := fun M w h => by rw [← hl]; exact (hΦ.go _ _ h).2.1.2
  refine gives_sl (Berrataref29_Store_Since_run q.sb 0 n) fun W R => fun w G cx => ⟨s.seq, fun _ => row _ _ _ _ _ (fun _ _ h => h) cx 2 (by show 2 < 5; decide), s.cut, fun _ => row _ _ _ _ _ (fun _ _ h => h) cx 4 (by show 4 < 5; decide), Br.intro (fun h => ?_) (fun _ => ?_)⟩
  · rw [Bool.or_eq_true, Bool.or_eq_true] at h
    rcases h with (h | h) | h
    · have := of_decide_eq_true h; omega
    · have := of_decide_eq_true h; omega
    · have := of_decide_eq_true h; omega
  have hin := sl_chgIn (hsl _ _ cx.phi)
  have hth := (hsl _ _ cx.phi).there
  clear cx
  have stE : ∀ (gs : List Value) (l : List ChgD), Stable (fun M w => Φ M w ∧ Elems M w gs l) := fun gs l => instStableAnd Φ (fun M w => Elems M w gs l)
  refine exI_mk (fun p m c nI R' Φ' k => ∃ (i : Nat) (gs : List Value), nI = i ∧ i ≤ l.length ∧ m = ((l.take i).filter fun x => decide (n < x.seq)).length ∧ R' = .buf p m c gs 46 3 :: R ∧ Φ' = (fun M w => Φ M w ∧ Elems M w gs ((l.take i).filter fun x => decide (n < x.seq))) ∧ k = l.length - i)
    ⟨⟨.buf none 0 0 [] 46 3 :: R, _, _, stE [] ((l.take 0).filter fun x => decide (n < x.seq)), fun w G cx => (cx.weak fun M w h => ⟨h, Elems.nil⟩).nobuf 46 3, 0, [], rfl, Nat.zero_le _, rfl, rfl, rfl, rfl⟩, ?_⟩
  rintro p m c nI R1 Φ1 k st1 ⟨i, gs, rfl, hi, rfl, rfl, rfl, rfl⟩
  refine fun w G cx => ⟨q.gp, l.length, q.gc, rowG _ _ _ _ _ (fun M w h => h.1) cx, Br.intro (fun hlt => ?_) (fun hge => fun w G cx => ?_)⟩
  · have hlt : i < l.length := by have := of_decide_eq_true hlt; omega
    obtain ⟨g, o, hgp⟩ := hth (by omega)
    have hst := filter_snoc (fun x => decide (n < x.seq)) l hlt
    have hfi : ((l.take i).filter fun x => decide (n < x.seq)).length ≤ i := Nat.le_trans (List.length_filter_le _ _) (by rw [List.length_take]; omega)
    have hrow : ∀ (W w : World) (R G : List Own) (X : PW), (∀ M w, X M w → Φ M w) → Ctx W w (R ++ G) X → RowAt w g (o + i * 3) l[i].cells := fun W w R G X hX cx => sl_chg (by rw [← hgp]; exact hsl _ _ (hX _ _ cx.phi)) hlt
    refine fun w G cx => ⟨q.gp, l.length, q.gc, rowG _ _ _ _ _ (fun M w h => h.1) cx, ⟨by omega, by omega⟩, ptrK_intro g o hgp fun w G cx => ⟨l[i].seq, by rw [Int.toNat_natCast]; exact hrow _ _ _ _ _ (fun M w h => h.1) cx 0 (by show 0 < 3; decide), Br.intro (fun hn => ?_) (fun hn => ?_)⟩⟩
    · rw [if_pos hn] at hst
      refine fun w G cx => ⟨q.gp, l.length, q.gc, rowG _ _ _ _ _ (fun M w h => h.1) cx, ⟨by omega, by omega⟩, ptrK_intro g o hgp fun w G cx => ⟨l[i].seq, l[i].key, l[i].val, by rw [Int.toNat_natCast]; exact hrow _ _ _ _ _ (fun M w h => h.1) cx, fun b w G cx => ?_⟩⟩
      have cx' : Ctx W w (.blk b l[i].cells 46 :: .buf p ((l.take i).filter fun x => decide (n < x.seq)).length c gs 46 3 :: (R ++ G)) (fun M w => Φ M w ∧ Elems M w gs ((l.take i).filter fun x => decide (n < x.seq))) := cx
      obtain ⟨p', c', w', hr, cx2⟩ := app_chg (x := l[i]) (by omega) (hin _ (List.getElem_mem hlt)) cx'
      have en : ((l.take (i + 1)).filter fun x => decide (n < x.seq)).length = ((l.take i).filter fun x => decide (n < x.seq)).length + 1 := by rw [hst, List.length_append]; rfl
      rw [← hst, ← en] at cx2
      rw [← en] at hr
      exact ⟨p', _, c', w', hr, _, _, stE _ _, cx2, by unfold I64; omega, _, _, l.length - (i + 1), stE _ _, fun w G cx => cx, ⟨i + 1, _, by omega, by omega, rfl, rfl, rfl, rfl⟩, by omega⟩
    · rw [if_neg (by rw [hn]; simp), List.append_nil] at hst
      exact ⟨by unfold I64; omega, _, _, l.length - (i + 1), st1, fun w G cx => cx, ⟨i + 1, gs, by omega, by omega, by rw [hst], rfl, by rw [hst], rfl⟩, by omega⟩
  · have hge : i = l.length := by have := of_decide_eq_false hge; omega
    subst hge
    rw [List.take_length] at cx ⊢
    obtain ⟨c1, hs, _, g1, g2⟩ := Ctx.freeze (α := ChgD) (S := R ++ G) cx cx.phi.2
    exact ⟨p, c, rfl, g1, g2, ((c1.weak (Ψ := fun M w => Φ M w) fun M w h => h.1).add hs).left⟩
end
end Go.Proofs.YtebnciehcnedjaaGreatDoor
end

section
namespace Go.Proofs.YtebnciehcnedjaaGreatDoor
open Go.Vc
theorem SameChanges_yes {Φ : PW} [Stable Φ] {p q : Option Addr} {c d : Nat} {l : List ChgD} (h1 : ∀ M w, Φ M w → Sl M w p l) (h2 : ∀ M w, Φ M w → Sl M w q l) (hl : l.length ≤ 1000000) :
    GivesIn Φ Tryz.prog F.errataref29_SameChanges #[.slice p l.length c, .slice q l.length d] (.bool true) := by
  refine .there (fun M w x => (h1 M w x).there) fun ht1 => .there (fun M w x => (h2 M w x).there) fun ht2 => ?_
  refine gives_in (Berrataref29_SameChanges_run p l.length c q l.length d) fun W R => Br.intro (fun hne => absurd rfl (of_decide_eq_true hne)) (fun heq => ?_)
  refine exI_mk (fun n R' Φ' k => ∃ i : Nat, n = i ∧ i ≤ l.length ∧ R' = R ∧ Φ' = Φ ∧ k = l.length - i) ⟨⟨R, Φ, _, inferInstance, fun w G cx => cx, 0, rfl, Nat.zero_le _, rfl, rfl, rfl⟩, ?_⟩
  rintro n R1 Φ1 k _ ⟨i, rfl, hi, rfl, rfl, rfl⟩
  refine Br.intro (fun hlt => fun w G cx => ?_) (fun hge => fun w G cx => ⟨rfl, cx.left⟩)
  have hlt : i < l.length := by have := of_decide_eq_true hlt; omega
  obtain ⟨b1, o1, rfl⟩ := ht1 (by omega)
  obtain ⟨b2, o2, rfl⟩ := ht2 (by omega)
  refine ⟨⟨by omega, by omega⟩, ptrK_intro b1 o1 rfl ⟨l[i].seq, l[i].key, l[i].val, by rw [Int.toNat_natCast]; exact sl_chg (h1 _ _ cx.phi) hlt, ⟨by omega, by omega⟩, ptrK_intro b2 o2 rfl ⟨l[i].seq, l[i].key, l[i].val, by rw [Int.toNat_natCast]; exact sl_chg (h2 _ _ cx.phi) hlt, by kernel_rfl, Br.intro (fun hne => ?_) (fun hs => ⟨by unfold I64; omega, R1, Φ1, l.length - (i + 1), inferInstance, fun w G cx => cx, ⟨i + 1, by omega, hlt, rfl, rfl, rfl⟩, by omega⟩)⟩⟩⟩
  simp at hne
set_option maxHeartbeats 1000000 in
theorem SameRuns_yes {Φ : PW} [Stable Φ] {p q : Option Addr} {c d : Nat} {l : List (List Int)} (h1 : ∀ M w, Φ M w → Sl M w p l) (h2 : ∀ M w, Φ M w → Sl M w q l) (hl : l.length ≤ 1000000) (hw : ∀ x ∈ l, x.length ≤ 1000000) :
    GivesIn Φ Tryz.prog F.errataref29_SameRuns #[.slice p l.length c, .slice q l.length d] (.bool true) := by
  refine GivesIn.pinned h1 fun g1 o1 cs1 hp1 => GivesIn.pinned (fun M w h => h2 M w h.1) fun g2 o2 cs2 hp2 => ?_
  obtain ⟨Ψ, hΨ⟩ : ∃ Ψ : PW, Ψ = (fun M w => (Φ M w ∧ Pin g1 o1 cs1 l M w) ∧ Pin g2 o2 cs2 l M w) := ⟨_, rfl⟩
  have stΨ : Stable Ψ := by rw [hΨ]; exact instStableAnd (fun M w => Φ M w ∧ Pin g1 o1 cs1 l M w) (fun M w => Pin g2 o2 cs2 l M w)
  have k1 : ∀ M w, Ψ M w → Pin g1 o1 cs1 l M w := fun M w h => by rw [hΨ] at h; exact h.1.2
  have k2 : ∀ M w, Ψ M w → Pin g2 o2 cs2 l M w := fun M w h => by rw [hΨ] at h; exact h.2
  rw [← hΨ]
  refine gives_in (Berrataref29_SameRuns_run p l.length c q l.length d) fun W R => Br.intro (fun hne => absurd rfl (of_decide_eq_true hne)) (fun heq => ?_)
  refine exI_mk (fun n R' Φ' k => ∃ i : Nat, n = i ∧ i ≤ l.length ∧ R' = R ∧ Φ' = Ψ ∧ k = l.length - i) ⟨⟨R, Ψ, _, stΨ, fun w G cx => cx, 0, rfl, Nat.zero_le _, rfl, rfl, rfl⟩, ?_⟩
  rintro n R1 Φ1 k _ ⟨i, rfl, hi, rfl, rfl, rfl⟩
  refine Br.intro (fun hlt => fun w G cx => ?_) (fun hge => fun w G cx => ⟨rfl, cx.left⟩)
  have hlt : i < l.length := by have := of_decide_eq_true hlt; omega
  obtain ⟨pa, ca, ea⟩ := pinl (k1 _ _ cx.phi) hlt
  obtain ⟨pb, cb, eb⟩ := pinl (k2 _ _ cx.phi) hlt
  have hta := (pinl_sl (k1 _ _ cx.phi) hlt ea).there
  have htb := (pinl_sl (k2 _ _ cx.phi) hlt eb).there
  have hwi := hw _ (List.getElem_mem hlt)
  have ra : ∀ (w : World) (R G : List Own), Ctx W w (R ++ G) Φ1 → w.cell? ⟨g1, o1 + i, none⟩ = some (.slice pa l[i].length ca) := fun w R G cx => pinl_at (k1 _ _ cx.phi) hlt ea
  have rb : ∀ (w : World) (R G : List Own), Ctx W w (R ++ G) Φ1 → w.cell? ⟨g2, o2 + i, none⟩ = some (.slice pb l[i].length cb) := fun w R G cx => pinl_at (k2 _ _ cx.phi) hlt eb
  have hq1 := hp1 (by omega)
  have hq2 := hp2 (by omega)
  refine ⟨⟨by omega, by omega⟩, ptrK_intro g1 o1 hq1 ⟨pa, l[i].length, ca, by rw [Int.toNat_natCast]; exact ra _ _ _ cx, ⟨by omega, by omega⟩, ptrK_intro g2 o2 hq2 ⟨pb, l[i].length, cb, by rw [Int.toNat_natCast]; exact rb _ _ _ cx, Br.intro (fun hne => absurd rfl (of_decide_eq_true hne)) (fun _ => ?_)⟩⟩⟩
  clear cx
  obtain ⟨x, hx⟩ : ∃ x, l[i] = x := ⟨_, rfl⟩
  have sa : ∀ (w : World) (R G : List Own), Ctx W w (R ++ G) Φ1 → Sl (dom (R ++ G)) w pa x := fun w R G cx => by rw [← hx]; exact pinl_sl (k1 _ _ cx.phi) hlt ea
  have sb : ∀ (w : World) (R G : List Own), Ctx W w (R ++ G) Φ1 → Sl (dom (R ++ G)) w pb x := fun w R G cx => by rw [← hx]; exact pinl_sl (k2 _ _ cx.phi) hlt eb
  rw [hx] at hta htb hwi ra rb
  refine exI_mk (fun n R' Φ' k => ∃ j : Nat, n = j ∧ j ≤ x.length ∧ R' = R1 ∧ Φ' = Φ1 ∧ k = x.length - j) ⟨⟨R1, Φ1, _, stΨ, fun w G cx => cx, 0, rfl, Nat.zero_le _, rfl, rfl, rfl⟩, ?_⟩
  rintro n R2 Φ2 k _ ⟨j, rfl, hj, rfl, rfl, rfl⟩
  refine ⟨⟨by omega, by omega⟩, ptrK_intro g1 o1 hq1 fun w G cx => ⟨pa, x.length, ca, by rw [Int.toNat_natCast]; exact ra _ _ _ cx, Br.intro (fun hltj => ?_) (fun hgej => ⟨by unfold I64; omega, R2, Φ2, l.length - (i + 1), stΨ, fun w G cx => cx, ⟨i + 1, by omega, by omega, rfl, rfl, rfl⟩, by omega⟩)⟩⟩
  have hltj : j < x.length := by have := of_decide_eq_true hltj; omega
  obtain ⟨ba, oa, rfl⟩ := hta (by omega)
  obtain ⟨bb, ob, rfl⟩ := htb (by omega)
  have xa : ∀ (w : World) (R G : List Own), Ctx W w (R ++ G) Φ2 → w.cell? ⟨ba, oa + j, none⟩ = some (.int .i64 x[j]) := fun w R G cx => by
    obtain ⟨b5, o5, e5, h5⟩ := sl_int (sa w R G cx) hltj
    cases e5
    exact h5
  have xb : ∀ (w : World) (R G : List Own), Ctx W w (R ++ G) Φ2 → w.cell? ⟨bb, ob + j, none⟩ = some (.int .i64 x[j]) := fun w R G cx => by
    obtain ⟨b5, o5, e5, h5⟩ := sl_int (sb w R G cx) hltj
    cases e5
    exact h5
  refine fun w G cx => ⟨⟨by omega, by omega⟩, ptrK_intro g1 o1 hq1 ⟨_, x.length, ca, by rw [Int.toNat_natCast]; exact ra _ _ _ cx, ⟨by omega, by omega⟩, ptrK_intro ba oa rfl ⟨x[j], by rw [Int.toNat_natCast]; exact xa _ _ _ cx, ⟨by omega, by omega⟩, ptrK_intro g2 o2 hq2 ⟨_, x.length, cb, by rw [Int.toNat_natCast]; exact rb _ _ _ cx, ⟨by omega, by omega⟩, ptrK_intro bb ob rfl ⟨x[j], by rw [Int.toNat_natCast]; exact xb _ _ _ cx, Br.intro (fun hne => absurd rfl (of_decide_eq_true hne)) (fun _ => ⟨by unfold I64; omega, R2, Φ2, x.length - (j + 1), stΨ, fun w G cx => cx, ⟨j + 1, by omega, by omega, rfl, rfl, rfl⟩, by omega⟩)⟩⟩⟩⟩⟩
end Go.Proofs.YtebnciehcnedjaaGreatDoor
end

section
namespace Go.Proofs.YtebnciehcnedjaaGreatDoor
open Go.Vc
def F4 : List Lev → Prop
  | [] => True
  | l :: t => l.length ≤ 4 ∧ ∀ m ∈ t, m.length < 4
theorem f4_of {ls : List Lev} (h : ∀ m ∈ ls, m.length < 4) : F4 ls := by
  cases ls with
  | nil => trivial
  | cons l t => exact ⟨Nat.le_of_lt (h l (by simp)), fun m hm => h m (by simp [hm])⟩
theorem f4_add {t : List Lev} {r : Run} (h : ∀ m ∈ t, m.length < 4) : F4 (addL t r) := by
  cases t with
  | nil =>
    rw [addL_nil]
    refine ⟨?_, fun m hm => by cases hm⟩
    split
    · exact Nat.zero_le _
    · show 1 ≤ 4; omega
  | cons l t =>
    rw [addL_cons]
    refine ⟨?_, fun m hm => h m (by simp [hm])⟩
    have := h l (by simp)
    split
    · omega
    · rw [List.length_cons]; omega
set_option maxHeartbeats 8000000 in
theorem settle29_use {W w : World} {S : List Own} {Φ : PW} [Stable Φ] {sb : Nat} {c d e : Value} {tp lp : Option Addr} {tc lc : Nat} {t : Run} {xs : List LV} (htc : t.length ≤ tc ∧ tc ≤ maxLen) (ht8 : t.length ≤ 8) (hta : AscK t) (hlv : LevOk (xs.map LV.l)) (hfo : ∀ m ∈ xs.map LV.l, m.length < 4) (hok : ∀ x ∈ xs, LVok x) (hcn : cntL (xs.map LV.l) ≤ 900) (hrn : (t ++ allRuns (xs.map LV.l)).length ≤ 10000)
    (cx : Ctx W w (rlO sb (.slice tp t.length tc) lp lc xs c d e S) (fun M w => (Φ M w ∧ Sl M w tp t) ∧ LVE xs M w)) {K : Ending → World → Prop}
    (hK : ∀ tp' tc' lp' lc' xs' w', xs'.map LV.l = settledL t (xs.map LV.l) → (∀ x ∈ xs', LVok x) → ((settledT t).length ≤ tc' ∧ tc' ≤ maxLen) → Ctx W w' (rlO sb (.slice tp' (settledT t).length tc') lp' lc' xs' c d e S) (fun M w => (Φ M w ∧ Sl M w tp' (settledT t)) ∧ LVE xs' M w) → K (.returned (.tuple #[])) w') :
    Calls Tryz.prog F.errataref29_Store_settle #[.pointer (some ⟨sb, 0, none⟩)] w K := by
  refine (Merrataref29_Store_settle_run sb 0 (J := fun u w' => K (.returned u) w') cx ?_).mono fun e w' ⟨v, he, hj⟩ => by rw [he]; exact hj
  clear cx
  have stT : ∀ (p : Option Addr) (r : Run) (B : List LV), Stable (fun M w => (Φ M w ∧ Sl M w p r) ∧ LVE B M w) := fun p r B => instStableAnd (fun M w => Φ M w ∧ Sl M w p r) (LVE B)
  have hxl : xs.length ≤ 900 := by have := cnt_len (xs.map LV.l); rw [List.length_map] at this; omega
  have hxx : ∀ x ∈ xs, x.l.length ≤ 900 := fun x hx => Nat.le_trans (cnt_mem (List.mem_map.2 ⟨x, hx, rfl⟩)) hcn
  obtain ⟨ls0, hls0⟩ : ∃ ls0, (if t.length = 8 then addL (xs.map LV.l) t else xs.map LV.l) = ls0 := ⟨_, rfl⟩
  refine ⟨fun R' Φ' => ∃ (tq lq : Option Addr) (td ld : Nat) (B : List LV), B.map LV.l = ls0 ∧ (∀ x ∈ B, LVok x) ∧ ((settledT t).length ≤ td ∧ td ≤ maxLen) ∧ R' = rlO sb (.slice tq (settledT t).length td) lq ld B c d e S ∧ Φ' = (fun M w => (Φ M w ∧ Sl M w tq (settledT t)) ∧ LVE B M w), fun w G cx => ⟨tp, t.length, tc, cx.get 0 rfl rfl, Br.intro (fun h8 => ?_) (fun h8 => ?_)⟩, ?_⟩
  · have h8 : t.length = 8 := by have := of_decide_eq_true h8; omega
    clear cx
    refine fun w G cx => ⟨tp, t.length, tc, cx.get 0 rfl rfl, fun w G cx => ?_⟩
    refine add29_use (S := S ++ G) (Φ := fun M w => Φ M w ∧ Sl M w tp t) (hR := ⟨fun M w h => h.2⟩) (i := 0) htc.1 htc.2 (by omega) (by omega) (fun x hx => by have := hxx x hx; omega) hok cx fun lp' lc' xs' w' hx' ho' cx2 => ?_
    have cx3 : Ctx W w' (rlO sb (.slice tp t.length tc) lp' lc' xs' c d e S ++ G) (fun M w => (Φ M w ∧ Sl M w tp t) ∧ LVE xs' M w) := cx2
    refine ⟨rfl, _, _, stT tp t xs', cx3, fun w G cx => ⟨cx.can 0 rfl (by show 0 + 1 ≤ 5; omega), fun w' hw' => ?_⟩⟩
    have cx4 := cx.put 0 hw' rfl
    have e0 : settledT t = [] := by unfold settledT; rw [if_pos h8]
    refine ⟨rlO sb (.slice none 0 0) lp' lc' xs' c d e S, _, stT tp t xs', cx4, rlO sb (.slice none 0 0) lp' lc' xs' c d e S, _, stT none [] xs', fun w G cx => cx.weak fun M w h => ⟨⟨h.1.1, Sl.nil⟩, h.2⟩, none, lp', 0, lc', xs', ?_, ho', ?_, ?_, ?_⟩
    · rw [hx', ← hls0, if_pos h8]; rfl
    · rw [e0]; exact ⟨Nat.le_refl _, Nat.zero_le _⟩
    · rw [e0]; rfl
    · rw [e0]
  · have h8 : ¬ t.length = 8 := by have := of_decide_eq_false h8; omega
    have e0 : settledT t = t := by unfold settledT; rw [if_neg h8]
    exact ⟨_, _, stT tp t xs, fun w G cx => cx, tp, lp, tc, lc, xs, by rw [← hls0, if_neg h8], hok, by rw [e0]; exact htc, by rw [e0], by rw [e0]⟩
  rintro R1 Φ1 hst1 ⟨tq, lq, td, ld, B0, hB0, hok0, htd, rfl, rfl⟩
  have hfin : settledL t (xs.map LV.l) = settleL ls0 := by unfold settledL; rw [hls0]
  have hlv0 : LevOk ls0 := by
    rw [← hls0]
    split
    · exact addL_ok hlv hta
    · exact hlv
  have hf0 : F4 ls0 := by
    rw [← hls0]
    split
    · exact f4_add hfo
    · exact f4_of hfo
  have hc0 : cntL ls0 ≤ 902 := by
    rw [← hls0]
    split
    · have := addL_cnt (xs.map LV.l) t; omega
    · omega
  have hr0 : (allRuns ls0).length ≤ 10000 := by
    rw [List.length_append] at hrn
    rw [← hls0]
    split
    · rw [addL_runs, List.length_append]; omega
    · omega
  obtain ⟨Φ0, hΦ0⟩ : ∃ Φ0 : PW, Φ0 = (fun M w => Φ M w ∧ Sl M w tq (settledT t)) := ⟨_, rfl⟩
  obtain ⟨tv, htv⟩ : ∃ tv, Value.slice tq (settledT t).length td = tv := ⟨_, rfl⟩
  have st0 : Stable Φ0 := by rw [hΦ0]; exact instStableAnd Φ (fun M w => Sl M w tq (settledT t))
  have stB : ∀ B : List LV, Stable (fun M w => Φ0 M w ∧ LVE B M w) := fun B => instStableAnd Φ0 (LVE B)
  refine exI_mk (fun iI R' Φ' k => ∃ (lq : Option Addr) (ld i : Nat) (B : List LV) (D rest : List Lev), iI = i ∧ D.length = i ∧ B.map LV.l = D ++ rest ∧ settleL ls0 = D ++ settleL rest ∧ cntL (D ++ rest) ≤ 902 ∧ (allRuns (D ++ rest)).length ≤ 10000 ∧ (LevOk rest ∧ F4 rest ∧ ∀ x ∈ B, LVok x) ∧ R' = rlO sb tv lq ld B c d e S ∧ Φ' = (fun M w => Φ0 M w ∧ LVE B M w) ∧ k = cntL rest)
    ⟨⟨rlO sb tv lq ld B0 c d e S, _, _, stB B0, fun w G cx => by rw [hΦ0, ← htv]; exact cx, lq, ld, 0, B0, [], ls0, rfl, rfl, hB0, rfl, hc0, hr0, ⟨hlv0, hf0, hok0⟩, rfl, rfl, rfl⟩, ?_⟩
  clear hst1 hB0 hok0 hlv0 hf0 hr0 hc0
  rintro iI R1 Φ1 k hst1 ⟨lq, ld, i, B, D, rest, rfl, hD, hBm, hset, hc, hr, ⟨hlo, hf4, hokB⟩, rfl, rfl, rfl⟩
  have hBl : B.length = D.length + rest.length := by
    have := congrArg List.length hBm
    rw [List.length_map, List.length_append] at this
    exact this
  have hcl := cnt_len (D ++ rest)
  rw [List.length_append] at hcl
  refine fun w G cx => ⟨lq, B.length, ld, cx.get 0 rfl rfl, Br.intro (fun hlt => ?_) (fun hge => ?_)⟩
  rotate_left
  · have hge : rest = [] := List.eq_nil_of_length_eq_zero (by have := of_decide_eq_false hge; omega)
    refine fun w G cx => hK tq td lq ld B w ?_ hokB htd ?_
    · rw [hfin, hset, hBm, hge, settleL_nil]
    · rw [htv]
      have h2 := cx.left
      rw [hΦ0] at h2
      exact h2
  have hlt : i < B.length := by have := of_decide_eq_true hlt; omega
  obtain ⟨l, rt, hrest⟩ : ∃ l rt, rest = l :: rt := by
    cases rest with
    | nil => rw [List.length_nil] at hBl; omega
    | cons l rt => exact ⟨l, rt, rfl⟩
  subst hrest
  obtain ⟨g, hg, _⟩ := cx.bufCell 1 rfl (by rw [List.length_map]; omega)
  subst hg
  obtain ⟨x, hx⟩ : ∃ x, B[i] = x := ⟨_, rfl⟩
  have hxl : x.l = l := by
    have h1 : (B.map LV.l)[i]? = some x.l := by rw [List.getElem?_map, List.getElem?_eq_getElem hlt, hx]; rfl
    rw [hBm, List.getElem?_append_right (by omega), hD, Nat.sub_self] at h1
    exact (Option.some.inj h1).symm
  subst hxl
  have ti : ((i : Int)).toNat = i := Int.toNat_natCast i
  have hcell : (B.map LV.cell)[i]? = some x.cell := by rw [List.getElem?_map, List.getElem?_eq_getElem hlt, hx]; rfl
  have hxm : x ∈ B := by rw [← hx]; exact List.getElem_mem hlt
  have hxo := hokB x hxm
  have pinx : ∀ M w, (Φ0 M w ∧ LVE B M w) → Pin x.g x.o x.cs x.l M w := fun M w h => h.2 x hxm
  have hrun : ∀ j (hj : j < x.l.length), ∃ rp rc, x.cs.getD j [] = [.slice rp x.l[j].length rc] ∧ x.l[j].length ≤ rc := fun j hj => by
    obtain ⟨rp, rc, e, h1, _⟩ := lv_run (pinx _ _ cx.phi) hj
    exact ⟨rp, rc, e, h1⟩
  clear cx
  have hcr : cntL (x.l :: rt) = x.l.length + 1 + cntL rt := by unfold cntL; simp; omega
  refine fun w G cx => ⟨_, B.length, ld, cx.get 0 rfl rfl, ⟨by omega, by omega⟩, ptrK_intro g 0 rfl fun w G cx => ⟨x.p, x.l.length, x.c, by rw [Nat.zero_add, ti]; exact cx.bufGet 1 rfl rfl hcell, Br.intro (fun h4 => ?_) (fun h4 => ?_)⟩⟩
  · have h4 : x.l.length < 4 := by have := of_decide_eq_true h4; omega
    exact ⟨by unfold I64; omega, _, _, cntL rt, hst1, fun w G cx => cx, ⟨_, ld, i + 1, B, D ++ [x.l], rt, by omega, by rw [List.length_append, hD]; rfl, by rw [hBm, List.append_assoc]; rfl, by rw [hset, settleL_less h4, List.append_assoc]; rfl, by rw [List.append_assoc]; exact hc, by rw [List.append_assoc]; exact hr, ⟨hlo.tail, f4_of hf4.2, hokB⟩, rfl, rfl, rfl⟩, by omega⟩
  have hn4 : ¬ x.l.length < 4 := by have := of_decide_eq_false h4; omega
  have h4 : x.l.length = 4 := by have := hf4.1; omega
  clear cx
  have hfl : x.l.flatten.length ≤ 10000 := by
    have : (allRuns (D ++ x.l :: rt)).length = (allRuns D).length + (x.l.flatten.length + (allRuns rt).length) := by rw [all_app, allRuns_cons, List.length_append, List.length_append]
    omega
  have hra : ∀ j (hj : j < x.l.length), AscK x.l[j] ∧ x.l[j].length ≤ 10000 := fun j hj => ⟨hlo.asc x.l (by simp) _ (List.getElem_mem hj), by
    have := (List.sublist_flatten_of_mem (List.getElem_mem hj)).length_le
    omega⟩
  have stA : ∀ (p : Option Addr) (r : Run), Stable (fun M w => (Φ0 M w ∧ LVE B M w) ∧ Sl M w p r) := fun p r => instStableAnd (fun M w => Φ0 M w ∧ LVE B M w) (fun M w => Sl M w p r)
  -- the runs of the level
  refine exI_mk (fun p n c2 nI R' Φ' k => ∃ (j : Nat) (acc : Run), nI = (j : Int) - 1 ∧ n = acc.length ∧ acc.length ≤ c2 ∧ c2 ≤ maxLen ∧ j ≤ 4 ∧ acc = normK (x.l.drop j).flatten ∧ R' = rlO sb tv (some ⟨g, 0, none⟩) ld B c d e S ∧ Φ' = (fun M w => (Φ0 M w ∧ LVE B M w) ∧ Sl M w p acc) ∧ j = k)
    ⟨⟨rlO sb tv (some ⟨g, 0, none⟩) ld B c d e S, _, _, stA none [], fun w G cx => cx.weak fun M w h => ⟨h, Sl.nil⟩, 4, [], rfl, rfl, Nat.le_refl _, Nat.zero_le _, Nat.le_refl _, by rw [List.drop_of_length_le (by omega)]; rfl, rfl, rfl, rfl⟩, ?_⟩
  rintro p n c2 nI R2 Φ2 k hst2 ⟨j, acc, rfl, rfl, hac, hac2, hj, hacc, rfl, rfl, rfl⟩
  refine Br.intro (fun h0 => ?_) (fun h0 => ?_)
  · obtain ⟨m, rfl⟩ : ∃ m, j = m + 1 := ⟨j - 1, by have := of_decide_eq_true h0; omega⟩
    have ej : (((m + 1 : Nat) : Int) - 1) = (m : Int) := by omega
    rw [ej]
    have hm : m < x.l.length := by omega
    obtain ⟨rp, rc, er, hrc⟩ := hrun m hm
    have hal : acc.length ≤ 10000 := by
      have h1 := normK_len (x.l.drop (m + 1)).flatten
      rw [← hacc] at h1
      have h2 : x.l.flatten = (x.l.take (m + 1)).flatten ++ (x.l.drop (m + 1)).flatten := by rw [← List.flatten_append, List.take_append_drop]
      rw [h2, List.length_append] at hfl
      omega
    refine fun w G cx => ⟨_, B.length, ld, cx.get 0 rfl rfl, ⟨by omega, by omega⟩, ptrK_intro g 0 rfl fun w G cx => ⟨x.p, x.l.length, x.c, by rw [Nat.zero_add, ti]; exact cx.bufGet 1 rfl rfl hcell, ⟨by omega, by omega⟩, ptrK_intro x.g x.o (hxo.ptr (by omega)) fun w G cx => ⟨rp, x.l[m].length, rc, by rw [Int.toNat_natCast]; exact pinl_at (pinx _ _ cx.phi.1) hm er, fun w G cx => ?_⟩⟩⟩
    refine (merge29_sl (Φ := fun M w => (Φ0 M w ∧ LVE B M w) ∧ Sl M w p acc) (fun M w h => pinl_sl (pinx _ _ h.1) hm er) (fun M w h => h.2) (hra m hm).1 (by rw [hacc]; exact normK_asc _) (by have := (hra m hm).2; omega) (by omega) hac).use cx fun p' c' w g1 g2 cx => ?_
    have e : normK (x.l[m] ++ acc) = normK (x.l.drop m).flatten := by rw [hacc, normK_r, List.drop_eq_getElem_cons hm, List.flatten_cons]
    rw [e] at g1 cx ⊢
    exact ⟨p', _, c', rfl, _, _, stA p' (normK (x.l.drop m).flatten), cx.weak fun M w h => ⟨h.1.1, h.2⟩, by unfold I64; omega, _, _, m, stA p' (normK (x.l.drop m).flatten), fun w G cx => cx, ⟨m, _, rfl, rfl, g1, g2, by omega, rfl, rfl, rfl, rfl⟩, by omega⟩
  have hj0 : j = 0 := by have := of_decide_eq_false h0; omega
  subst hj0
  rw [List.drop_zero] at hacc
  subst hacc
  have hal : (normK x.l.flatten).length ≤ 10000 := Nat.le_trans (normK_len _) hfl
  refine ⟨by unfold I64; omega, ?_⟩
  -- whether the levels behind it hold nothing
  refine exI_mk (fun cc nI R' Φ' k => ∃ m : Nat, nI = ((i + 1 + m : Nat) : Int) ∧ m ≤ rt.length ∧ cc = (rt.take m).all (fun l => decide (l = [])) ∧ R' = rlO sb tv (some ⟨g, 0, none⟩) ld B c d e S ∧ Φ' = (fun M w => (Φ0 M w ∧ LVE B M w) ∧ Sl M w p (normK x.l.flatten)) ∧ k = rt.length - m)
    ⟨⟨_, _, _, hst2, fun w G cx => cx, 0, by omega, Nat.zero_le _, by rw [List.take_zero]; rfl, rfl, rfl, rfl⟩, ?_⟩
  rintro cc nI R2 Φ2 k hst2 ⟨m, rfl, hm, rfl, rfl, rfl, rfl⟩
  rw [List.length_cons] at hBl hcl
  refine fun w G cx => ⟨_, B.length, ld, cx.get 0 rfl rfl, Br.intro (fun hlt2 => ?_) (fun hge2 => ?_)⟩
  · have hlt2 : m < rt.length := by have := of_decide_eq_true hlt2; omega
    obtain ⟨y, hy⟩ : ∃ y, B[i + 1 + m]'(by omega) = y := ⟨_, rfl⟩
    have hyl : y.l = rt[m] := by
      have h1 : (B.map LV.l)[i + 1 + m]? = some y.l := by rw [List.getElem?_map, List.getElem?_eq_getElem (by omega), hy]; rfl
      rw [hBm, List.getElem?_append_right (by omega), hD, show i + 1 + m - i = m + 1 by omega, List.getElem?_cons_succ, List.getElem?_eq_getElem hlt2] at h1
      exact (Option.some.inj h1).symm
    have hcy : (B.map LV.cell)[i + 1 + m]? = some y.cell := by rw [List.getElem?_map, List.getElem?_eq_getElem (by omega), hy]; rfl
    refine fun w G cx => ⟨_, B.length, ld, fun _ => cx.get 0 rfl rfl, fun _ => ⟨by omega, by omega⟩, ptrK_intro g 0 rfl ⟨y.p, y.l.length, y.c, fun _ => by rw [Nat.zero_add, Int.toNat_natCast]; exact cx.bufGet 1 rfl rfl hcy, by unfold I64; omega, _, _, rt.length - (m + 1), hst2, fun w G cx => cx, ⟨m + 1, by omega, by omega, ?_, rfl, rfl, rfl⟩, by omega⟩⟩
    rw [List.take_succ_eq_append_getElem hlt2, List.all_append, hyl]
    congr 1
    rw [List.all_cons, List.all_nil, Bool.and_true]
    by_cases h0 : rt[m] = []
    · rw [decide_eq_true h0, h0]; rfl
    · rw [decide_eq_false h0, decide_eq_false fun h => h0 (List.eq_nil_of_length_eq_zero (by omega))]
  have hge2 : m = rt.length := by have := of_decide_eq_false hge2; omega
  subst hge2
  rw [List.take_length]
  clear cx
  refine ⟨fun q n c3 R' Φ' => n = (pushR x.l rt).length ∧ (pushR x.l rt).length ≤ c3 ∧ c3 ≤ maxLen ∧ R' = rlO sb tv (some ⟨g, 0, none⟩) ld B c d e S ∧ Φ' = (fun M w => (Φ0 M w ∧ LVE B M w) ∧ Sl M w q (pushR x.l rt)), Br.intro (fun hall => ?_) (fun hall => ?_), ?_⟩
  · have epush : pushR x.l rt = thereP (normK x.l.flatten) := by unfold pushR; rw [if_pos hall]
    refine fun w G cx => (there29_sl (Φ := fun M w => (Φ0 M w ∧ LVE B M w) ∧ Sl M w p (normK x.l.flatten)) (fun M w h => h.2) (by omega)).use cx fun p2 c3 w2 k1 k2 cx => ⟨p2, _, c3, rfl, _, _, stA p2 (thereP (normK x.l.flatten)), cx.weak fun M w h => ⟨h.1.1, h.2⟩, _, _, stA p2 (thereP (normK x.l.flatten)), fun w G cx => cx, ?_⟩
    rw [epush]
    exact ⟨rfl, k1, k2, rfl, rfl⟩
  · have epush : pushR x.l rt = normK x.l.flatten := by unfold pushR; rw [if_neg (by rw [hall]; simp)]
    refine ⟨_, _, hst2, fun w G cx => cx, ?_⟩
    rw [epush]
    exact ⟨rfl, hac, hac2, rfl, rfl⟩
  rintro q n c3 R3 Φ3 hst3 ⟨rfl, hq1, hq2, rfl, rfl⟩
  -- the level holds nothing from now on
  obtain ⟨B', hB'⟩ : ∃ B', B.set i nilV = B' := ⟨_, rfl⟩
  have hBl' : B'.length = B.length := by rw [← hB', List.length_set]
  have hBm' : B'.map LV.l = D ++ [] :: rt := by
    rw [← hB', List.map_set, hBm, List.set_append_right _ _ (by omega), hD, Nat.sub_self]
    rfl
  have hcs : setL (B.map LV.cell) i [Value.slice none 0 0] = B'.map LV.cell := by rw [← hB', List.map_set]; rfl
  have hLV : ∀ M w, LVE B M w → LVE B' M w := fun M w h y hy => by
    rw [← hB'] at hy
    rcases List.mem_or_eq_of_mem_set hy with hy | hy
    · exact h y hy
    · rw [hy]; exact lv_nil
  have hokB' : ∀ y ∈ B', LVok y := fun y hy => by
    rw [← hB'] at hy
    rcases List.mem_or_eq_of_mem_set hy with hy | hy
    · exact hokB y hy
    · rw [hy]; exact nilV_ok
  refine fun w G cx => ⟨_, B.length, ld, cx.get 0 rfl rfl, ⟨by omega, by omega⟩, ptrK_intro g 0 rfl fun w G cx => ⟨by rw [Nat.zero_add, ti]; exact cx.bufCan 1 rfl rfl (by rw [List.length_map]; omega), fun w' hw' => ?_⟩⟩
  rw [Nat.zero_add, ti] at hw'
  have cx5 := cx.bufPuts 1 (vs := [Value.slice none 0 0]) (b := g) (o := i) (w' := w') rfl rfl (by rw [List.length_map]; omega) (by rw [List.length_map]; show i + 1 ≤ _; omega) hw'
  rw [hcs] at cx5
  have cx6 : Ctx W w' (rlO sb tv (some ⟨g, 0, none⟩) ld B' c d e S ++ G) (fun M w => (Φ0 M w ∧ LVE B M w) ∧ Sl M w q (pushR x.l rt)) := by unfold rlO; rw [hBl']; exact cx5
  have stq : Stable (fun M w => (Φ0 M w ∧ Sl M w q (pushR x.l rt)) ∧ LVE B' M w) := instStableAnd (fun M w => Φ0 M w ∧ Sl M w q (pushR x.l rt)) (LVE B')
  refine ⟨_, _, stq, cx6.weak fun M w h => ⟨⟨h.1.1, h.2⟩, hLV _ _ h.1.2⟩, by unfold I64; omega, fun w G cx => ?_⟩
  have hcast : ((i : Int) + 1) = ((i + 1 : Nat) : Int) := by omega
  rw [hcast]
  have hlev : ∀ y ∈ B', y.l.length ≤ 1000 := fun y hy => by
    have h1 : y.l ∈ D ++ [] :: rt := by rw [← hBm']; exact List.mem_map.2 ⟨y, hy, rfl⟩
    have h2 := cnt_mem h1
    rw [cnt_app] at h2 hc
    have h3 : cntL ([] :: rt) = 0 + 1 + cntL rt := by unfold cntL; simp; omega
    omega
  refine add29_use (S := S ++ G) (Φ := fun M w => Φ0 M w ∧ Sl M w q (pushR x.l rt)) (hR := ⟨fun M w h => h.2⟩) (i := i + 1) hq1 hq2 (by omega) (by omega) hlev hokB' cx fun lp' lc' bs' w' hb' hob cx8 => ?_
  have hb2 : bs'.map LV.l = (D ++ [[]]) ++ addL rt (pushR x.l rt) := by
    have h1 := addAt_at (D ++ [[]]) rt (pushR x.l rt)
    rw [List.length_append, hD, List.append_assoc] at h1
    rw [hb', hBm']
    exact h1
  have hadd := addL_cnt rt (pushR x.l rt)
  have cx9 : Ctx W w' (rlO sb tv lp' lc' bs' c d e S ++ G) (fun M w => Φ0 M w ∧ LVE bs' M w) := Ctx.weak (Ψ := fun M w => Φ0 M w ∧ LVE bs' M w) cx8 fun M w h => ⟨h.1.1, h.2⟩
  refine ⟨rfl, _, _, stB bs', cx9, by unfold I64; omega, _, _, cntL (addL rt (pushR x.l rt)), stB bs', fun w G cx => cx, ⟨lp', lc', i + 1, bs', D ++ [[]], addL rt (pushR x.l rt), rfl, by rw [List.length_append, hD]; rfl, hb2, ?_, ?_, ?_, ⟨addL_ok hlo.tail (push_asc _ _), f4_add hf4.2, hob⟩, rfl, rfl, rfl⟩, by omega⟩
  · rw [hset, settleL_more hn4, List.append_assoc]; rfl
  · rw [cnt_app, cnt_app]
    rw [cnt_app] at hc
    have h3 : cntL [([] : Lev)] = 1 := rfl
    omega
  · rw [all_app, all_app, addL_runs, List.length_append, List.length_append, List.length_append]
    rw [all_app, allRuns_cons, List.length_append, List.length_append] at hr
    have h3 : (allRuns [([] : Lev)]).length = 0 := rfl
    have h5 := push_len x.l rt
    omega
end Go.Proofs.YtebnciehcnedjaaGreatDoor
end

section
namespace Go.Proofs.YtebnciehcnedjaaGreatDoor
open Go.Vc
set_option maxHeartbeats 4000000 in
theorem Put29_use {W w : World} {S : List Own} {Φ : PW} [Stable Φ] {q : RO} {s : StD} {n : Nat} (hq : RfQ q s) (hI : StI s) (hS : StS s n) (hn : n ≤ 400) {k v : ByteArray} (hk : k.size ≤ maxLen) (hv : v.size ≤ maxLen)
    (cx : Ctx W w (rfO q s S) (fun M w => Φ M w ∧ rfF q s M w)) {K : Ending → World → Prop}
    (hK : ∀ q' w', q'.sb = q.sb → RfQ q' (putS s k v) → Ctx W w' (rfO q' (putS s k v) S) (fun M w => Φ M w ∧ rfF q' (putS s k v) M w) → K (.returned (.tuple #[])) w') :
    Calls Tryz.prog F.errataref29_Store_Put #[.pointer (some ⟨q.sb, 0, none⟩), .string k, .string v] w K := by
  obtain ⟨sb, tp, tc, lp, lc, xs, gp, gc, gs⟩ := q
  obtain ⟨t, ls, sq, lg, cut⟩ := s
  obtain ⟨htab, hlev, hok⟩ := hq
  simp only at htab hlev hok
  have hasc : AscK t := hI.tab
  have hfew : t.length < 8 := hI.few
  have hlok : LevOk ls := hI.lev
  have hfour : ∀ l ∈ ls, l.length < 4 := hI.four
  have h1 : cntL ls ≤ 2 * n := hS.cnt
  have h2 : (t ++ allRuns ls).length ≤ n := hS.ver
  have h3 : lg.length ≤ n := hS.log
  have h4 : I64 (sq + 1) := hS.seq
  have hst : Stable (fun M w => Φ M w ∧ rfF ⟨sb, tp, tc, lp, lc, xs, gp, gc, gs⟩ ⟨t, ls, sq, lg, cut⟩ M w) := instStableRf Φ _ _
  refine (Berrataref29_Store_Put_run sb 0 k v (J := fun u w' => K (.returned u) w') cx ?_).mono fun e w' ⟨v, he, hj⟩ => by rw [he]; exact hj
  clear cx
  refine fun w G cx => ⟨sq, cx.get 0 rfl rfl, h4, fun w G cx => ⟨cx.can 0 rfl (by show 0 + 2 + 1 ≤ 5; omega), fun w' hw' => ?_⟩⟩
  have cx1 := cx.put 0 hw' rfl
  refine ⟨rlO sb (.slice tp t.length tc) lp lc xs (.int .i64 (sq + 1)) (.slice gp lg.length gc) (.int .i64 cut) (.buf gp lg.length gc gs 46 3 :: S), _, hst, cx1, [Own.blk sb [.slice tp t.length tc, .slice lp xs.length lc, .int .i64 (sq + 1), .slice gp lg.length gc, .int .i64 cut] 60], fun _ _ => True, inferInstance, fun w G cx => (cx.sub (((List.nil_sublist _).cons_cons _).append_right G)).weak fun _ _ _ => trivial, gp, lg.length, gc, fun w G cx => ⟨_, _, _, cx.get 0 rfl rfl, rfl⟩, sq + 1, fun w G cx => ⟨_, cx.get 0 rfl rfl, rfl⟩, fun b => ⟨fun w G cx => (cx.drop1.sub (((List.nil_sublist _).cons_cons _).append_right G)).weak fun _ _ _ => trivial, fun w G cx => ?_⟩⟩
  clear cx1
  obtain ⟨x, hx⟩ : ∃ x : ChgD, x = ⟨sq + 1, k, v⟩ := ⟨_, rfl⟩
  obtain ⟨Φ3, hΦ3⟩ : ∃ Φ3 : PW, Φ3 = (fun M w => (Φ M w ∧ Sl M w tp t) ∧ LVE xs M w) := ⟨_, rfl⟩
  have st3 : Stable Φ3 := by rw [hΦ3]; exact instStableAnd (fun M w => Φ M w ∧ Sl M w tp t) (LVE xs)
  have cx2 : Ctx W w (.blk b x.cells 46 :: .buf gp lg.length gc gs 46 3 :: Own.blk sb [.slice tp t.length tc, .slice lp xs.length lc, .int .i64 (sq + 1), .slice gp lg.length gc, .int .i64 cut] 60 :: Own.buf lp xs.length lc (xs.map LV.cell) 103 1 :: (S ++ G)) (fun M w => Φ3 M w ∧ Elems M w gs lg) := by
    rw [hx, hΦ3]
    exact (cx.perm (List.Perm.cons _ (List.perm_middle (l₁ := [Own.blk sb [.slice tp t.length tc, .slice lp xs.length lc, .int .i64 (sq + 1), .slice gp lg.length gc, .int .i64 cut] 60, Own.buf lp xs.length lc (xs.map LV.cell) 103 1])))).weak fun M w h => ⟨⟨⟨h.1, h.2.1.1⟩, h.2.2⟩, h.2.1.2⟩
  obtain ⟨gp', gc', w2, hr, cx3⟩ := app_chg (x := x) (by omega) (by rw [hx]; exact ⟨h4, hk, hv⟩) cx2
  obtain ⟨lg2, hlg2⟩ : ∃ l, lg ++ [x] = l := ⟨_, rfl⟩
  have el : lg.length + 1 = lg2.length := by rw [← hlg2, List.length_append]; rfl
  rw [el, hlg2] at cx3
  rw [el] at hr
  obtain ⟨gs2, hgs2⟩ : ∃ gs2, gs ++ x.cells = gs2 := ⟨_, rfl⟩
  rw [hgs2] at cx3
  have cx4 : Ctx W w2 (rlO sb (.slice tp t.length tc) lp lc xs (.int .i64 (sq + 1)) (.slice gp lg.length gc) (.int .i64 cut) (.buf gp' lg2.length gc' gs2 46 3 :: S) ++ G) (fun M w => ((Φ M w ∧ Elems M w gs2 lg2) ∧ Sl M w tp t) ∧ LVE xs M w) := by
    have h5 := cx3.perm (List.perm_middle (l₁ := [Own.blk sb [.slice tp t.length tc, .slice lp xs.length lc, .int .i64 (sq + 1), .slice gp lg.length gc, .int .i64 cut] 60, Own.buf lp xs.length lc (xs.map LV.cell) 103 1])).symm
    rw [hΦ3] at h5
    exact Ctx.weak (Ψ := fun M w => ((Φ M w ∧ Elems M w gs2 lg2) ∧ Sl M w tp t) ∧ LVE xs M w) h5 fun M w h => ⟨⟨⟨h.1.1.1, h.2⟩, h.1.1.2⟩, h.1.2⟩
  clear cx2 cx3
  have stE : Stable (fun M w => Φ M w ∧ Elems M w gs2 lg2) := instStableAnd Φ (fun M w => Elems M w gs2 lg2)
  have stP : ∀ (p : Option Addr) (r : Run) (B : List LV), Stable (fun M w => ((Φ M w ∧ Elems M w gs2 lg2) ∧ Sl M w p r) ∧ LVE B M w) := fun p r B => instStableAnd (fun M w => (Φ M w ∧ Elems M w gs2 lg2) ∧ Sl M w p r) (LVE B)
  refine ⟨gp', _, gc', w2, hr, _, _, stP tp t xs, cx4, fun w G cx => (cx.sub (((List.nil_sublist _).cons_cons _).append_right G)).weak fun _ _ _ => trivial, fun w G cx => ⟨cx.can 0 rfl (by show 0 + 3 + 1 ≤ 5; omega), fun w' hw' => ?_⟩⟩
  clear cx4
  have cx5 := cx.put 0 hw' rfl
  refine ⟨rlO sb (.slice tp t.length tc) lp lc xs (.int .i64 (sq + 1)) (.slice gp' lg2.length gc') (.int .i64 cut) (.buf gp' lg2.length gc' gs2 46 3 :: S), _, stP tp t xs, cx5, fun w G cx => ⟨tp, t.length, tc, cx.get 0 rfl rfl, fun w G cx => ?_⟩⟩
  clear cx5
  have hpl := putK_len ⟨k, v⟩ t
  have hpa : AscK (putK ⟨k, v⟩ t) := putK_asc hasc
  have e1 : putS ⟨t, ls, sq, lg, cut⟩ k v = ⟨settledT (putK ⟨k, v⟩ t), settledL (putK ⟨k, v⟩ t) ls, sq + 1, lg2, cut⟩ := by rw [← hlg2, hx]; rfl
  rw [e1] at hK
  refine (put29_sl (Φ := fun M w => ((Φ M w ∧ Elems M w gs2 lg2) ∧ Sl M w tp t) ∧ LVE xs M w) (fun M w h => h.1.2) hasc (by omega) htab.1 ⟨hk, hv⟩).use cx fun p2 c2 w2 g1 g2 cx => ?_
  obtain ⟨t2, ht2⟩ : ∃ t2, putK ⟨k, v⟩ t = t2 := ⟨_, rfl⟩
  rw [ht2] at g1 cx hK hpl hpa ⊢
  refine ⟨p2, _, c2, rfl, rlO sb (.slice tp t.length tc) lp lc xs (.int .i64 (sq + 1)) (.slice gp' lg2.length gc') (.int .i64 cut) (.buf gp' lg2.length gc' gs2 46 3 :: S), _, stP p2 t2 xs, cx.weak fun M w h => ⟨⟨h.1.1.1, h.2⟩, h.1.2⟩, fun w G cx => ⟨cx.can 0 rfl (by show 0 + 1 ≤ 5; omega), fun w' hw' => ?_⟩⟩
  have cx7 := cx.put 0 hw' rfl
  refine ⟨rlO sb (.slice p2 t2.length c2) lp lc xs (.int .i64 (sq + 1)) (.slice gp' lg2.length gc') (.int .i64 cut) (.buf gp' lg2.length gc' gs2 46 3 :: S), _, stP p2 t2 xs, cx7, fun w G cx => ?_⟩
  clear cx7
  rw [List.length_append] at h2
  refine settle29_use (S := .buf gp' lg2.length gc' gs2 46 3 :: (S ++ G)) (Φ := fun M w => Φ M w ∧ Elems M w gs2 lg2) ⟨g1, g2⟩ (by omega) hpa (by rw [hlev]; exact hlok) (by rw [hlev]; exact hfour) hok (by rw [hlev]; omega) (by rw [hlev, List.length_append]; omega) cx fun tp' tc' lp' lc' xs' w' hx' ho' htc' cx8 => ?_
  rw [hlev] at hx'
  refine ⟨rfl, rlO sb (.slice tp' (settledT t2).length tc') lp' lc' xs' (.int .i64 (sq + 1)) (.slice gp' lg2.length gc') (.int .i64 cut) (.buf gp' lg2.length gc' gs2 46 3 :: S), _, stP tp' (settledT t2) xs', cx8, fun w G cx => hK ⟨sb, tp', tc', lp', lc', xs', gp', gc', gs2⟩ w rfl ⟨htc', hx', ho'⟩ (cx.left.weak fun M w h => ⟨h.1.1.1, ⟨h.1.2, h.1.1.2⟩, h.2⟩)⟩
theorem cut_eq {s : StD} (h : StL s) (n : Int) : max s.cut (min n s.seq) = cutS s n := by
  have := h.le
  unfold cutS
  omega
theorem trim_drop {s : StD} (h : StL s) (n : Int) : s.log.filter (fun x => decide (n < x.seq)) = s.log.drop (cutS s n - s.cut).toNat := by
  rw [since_drop s.log s.cut n h.num]
  have h1 := h.le
  have h2 := h.len
  rcases Int.le_total n s.seq with h3 | h3
  · congr 1
    unfold cutS
    omega
  · rw [List.drop_of_length_le (by omega), List.drop_of_length_le (by unfold cutS; omega)]
set_option maxHeartbeats 2000000 in
theorem Trim29_use {W w : World} {S : List Own} {Φ : PW} [Stable Φ] {q : RO} {s : StD} (hq : RfQ q s) (hL : StL s) (hlg : s.log.length ≤ 1000000) (n : Int)
    (cx : Ctx W w (rfO q s S) (fun M w => Φ M w ∧ rfF q s M w)) {K : Ending → World → Prop}
    (hK : ∀ q' w', q'.sb = q.sb → RfQ q' (trimS s n) → Ctx W w' (rfO q' (trimS s n) S) (fun M w => Φ M w ∧ rfF q' (trimS s n) M w) → K (.returned (.tuple #[])) w') :
    Calls Tryz.prog F.errataref29_Store_Trim #[.pointer (some ⟨q.sb, 0, none⟩), .int .i64 n] w K := by
  have hcut := cut_eq hL n
  have hdr := trim_drop hL n
  have e1 : trimS s n = ⟨s.table, s.levels, s.seq, s.log.drop (cutS s n - s.cut).toNat, cutS s n⟩ := rfl
  rw [← hdr] at e1
  rw [e1] at hK
  obtain ⟨cn, hcn⟩ : ∃ cn, cutS s n = cn := ⟨_, rfl⟩
  rw [hcn] at hK hcut
  clear e1 hdr hL
  obtain ⟨sb, tp, tc, lp, lc, xs, gp, gc, gs⟩ := q
  obtain ⟨t, ls, sq, lg, cut⟩ := s
  obtain ⟨htab, hlev, hok⟩ := hq
  simp only at htab hlev hok hcut hK hlg
  have hst : Stable (fun M w => Φ M w ∧ rfF ⟨sb, tp, tc, lp, lc, xs, gp, gc, gs⟩ ⟨t, ls, sq, lg, cut⟩ M w) := instStableRf Φ _ _
  refine (Berrataref29_Store_Trim_run sb 0 n (J := fun u w' => K (.returned u) w') cx ?_).mono fun e w' ⟨v, he, hj⟩ => by rw [he]; exact hj
  obtain ⟨_, hgc, _⟩ := cx.bufLen 2 rfl
  clear cx
  refine fun w G cx => ⟨cut, cx.get 0 rfl rfl, fun w G cx => ⟨sq, cx.get 0 rfl rfl, fun w G cx => ⟨cx.can 0 rfl (by show 0 + 4 + 1 ≤ 5; omega), fun w' hw' => ?_⟩⟩⟩
  rw [hcut] at hw'
  have cx1 : Ctx W w' (rlO sb (.slice tp t.length tc) lp lc xs (.int .i64 sq) (.slice gp lg.length gc) (.int .i64 cn) (.buf gp lg.length gc gs 46 3 :: S) ++ G) (fun M w => Φ M w ∧ rfF ⟨sb, tp, tc, lp, lc, xs, gp, gc, gs⟩ ⟨t, ls, sq, lg, cut⟩ M w) := cx.put 0 hw' rfl
  clear cx
  obtain ⟨Φ3, hΦ3⟩ : ∃ Φ3 : PW, Φ3 = (fun M w => ((Φ M w ∧ Sl M w tp t) ∧ LVE xs M w) ∧ Sl M w gp lg) := ⟨_, rfl⟩
  have st3 : Stable Φ3 := by rw [hΦ3]; exact instStableAnd (fun M w => (Φ M w ∧ Sl M w tp t) ∧ LVE xs M w) (fun M w => Sl M w gp lg)
  have hsl : ∀ M w, Φ3 M w → Sl M w gp lg := fun M w h => by rw [hΦ3] at h; exact h.2
  obtain ⟨R0, hR0⟩ : ∃ R0, R0 = rlO sb (.slice tp t.length tc) lp lc xs (.int .i64 sq) (.slice gp lg.length gc) (.int .i64 cn) S := ⟨_, rfl⟩
  -- the changelog is plain data from now on
  have hfr : ∀ (w : World) (G : List Own), Ctx W w (rlO sb (.slice tp t.length tc) lp lc xs (.int .i64 sq) (.slice gp lg.length gc) (.int .i64 cn) (.buf gp lg.length gc gs 46 3 :: S) ++ G) (fun M w => Φ M w ∧ rfF ⟨sb, tp, tc, lp, lc, xs, gp, gc, gs⟩ ⟨t, ls, sq, lg, cut⟩ M w) → Ctx W w (R0 ++ G) Φ3 := fun w G cx => by
    have h5 : Ctx W w (.buf gp lg.length gc gs 46 3 :: Own.blk sb [.slice tp t.length tc, .slice lp xs.length lc, .int .i64 sq, .slice gp lg.length gc, .int .i64 cn] 60 :: Own.buf lp xs.length lc (xs.map LV.cell) 103 1 :: (S ++ G)) (fun M w => Φ M w ∧ rfF ⟨sb, tp, tc, lp, lc, xs, gp, gc, gs⟩ ⟨t, ls, sq, lg, cut⟩ M w) := cx.perm (List.perm_middle (l₁ := [Own.blk sb [.slice tp t.length tc, .slice lp xs.length lc, .int .i64 sq, .slice gp lg.length gc, .int .i64 cn] 60, Own.buf lp xs.length lc (xs.map LV.cell) 103 1]))
    obtain ⟨c1, hs, _, _, _⟩ := Ctx.freeze (α := ChgD) h5 h5.phi.2.1.2
    rw [hR0, hΦ3]
    exact (c1.add (Ψ := fun M w => Sl M w gp lg) hs).weak fun M w h => ⟨⟨⟨h.1.1, h.1.2.1.1⟩, h.1.2.2⟩, h.2⟩
  have cxf := hfr _ _ cx1
  have hin := sl_chgIn (hsl _ _ cxf.phi)
  have hth := (hsl _ _ cxf.phi).there
  clear cxf
  refine ⟨_, _, hst, cx1, ?_⟩
  clear cx1
  have rowG : ∀ (W w : World) (o : Own) (G : List Own) (X : PW), Ctx W w (o :: (R0 ++ G)) X → w.cell? ⟨sb, 3, none⟩ = some (.slice gp lg.length gc) := fun W w o G X cx => by
    rw [hR0] at cx
    exact cx.get 1 rfl rfl
  have stE : ∀ (gs : List Value) (l : List ChgD), Stable (fun M w => Φ3 M w ∧ Elems M w gs l) := fun gs l => instStableAnd Φ3 (fun M w => Elems M w gs l)
  refine exI_mk (fun p m c nI R' Φ' k => ∃ (i : Nat) (gs : List Value), nI = i ∧ i ≤ lg.length ∧ m = ((lg.take i).filter fun x => decide (n < x.seq)).length ∧ R' = .buf p m c gs 46 3 :: R0 ∧ Φ' = (fun M w => Φ3 M w ∧ Elems M w gs ((lg.take i).filter fun x => decide (n < x.seq))) ∧ k = lg.length - i)
    ⟨⟨.buf none 0 0 [] 46 3 :: R0, _, _, stE [] ((lg.take 0).filter fun x => decide (n < x.seq)), fun w G cx => ((hfr w G cx).weak fun M w h => ⟨h, Elems.nil⟩).nobuf 46 3, 0, [], rfl, Nat.zero_le _, rfl, rfl, rfl, rfl⟩, ?_⟩
  rintro p m c nI R1 Φ1 k st1 ⟨i, gs', rfl, hi, rfl, rfl, rfl, rfl⟩
  refine fun w G cx => ⟨gp, lg.length, gc, rowG _ _ _ _ _ cx, Br.intro (fun hlt => ?_) (fun hge => fun w G cx => ?_)⟩
  · have hlt : i < lg.length := by have := of_decide_eq_true hlt; omega
    obtain ⟨g, o, hgp⟩ := hth (by omega)
    have hst := filter_snoc (fun x => decide (n < x.seq)) lg hlt
    have hfi : ((lg.take i).filter fun x => decide (n < x.seq)).length ≤ i := Nat.le_trans (List.length_filter_le _ _) (by rw [List.length_take]; omega)
    have hrow : ∀ (W w : World) (S : List Own) (Y : PW), Ctx W w S (fun M w => Φ3 M w ∧ Y M w) → RowAt w g (o + i * 3) lg[i].cells := fun W w S Y cx => sl_chg (by rw [← hgp]; exact hsl _ _ cx.phi.1) hlt
    refine fun w G cx => ⟨gp, lg.length, gc, rowG _ _ _ _ _ cx, ⟨by omega, by omega⟩, ptrK_intro g o hgp fun w G cx => ⟨lg[i].seq, by rw [Int.toNat_natCast]; exact hrow _ _ _ _ cx 0 (by show 0 < 3; decide), Br.intro (fun hn => ?_) (fun hn => ?_)⟩⟩
    · rw [if_pos hn] at hst
      refine fun w G cx => ⟨gp, lg.length, gc, rowG _ _ _ _ _ cx, ⟨by omega, by omega⟩, ptrK_intro g o hgp fun w G cx => ⟨lg[i].seq, lg[i].key, lg[i].val, by rw [Int.toNat_natCast]; exact hrow _ _ _ _ cx, fun b w G cx => ?_⟩⟩
      have cx' : Ctx W w (.blk b lg[i].cells 46 :: .buf p ((lg.take i).filter fun x => decide (n < x.seq)).length c gs' 46 3 :: (R0 ++ G)) (fun M w => Φ3 M w ∧ Elems M w gs' ((lg.take i).filter fun x => decide (n < x.seq))) := cx
      obtain ⟨p', c', w', hr, cx2⟩ := app_chg (x := lg[i]) (by omega) (hin _ (List.getElem_mem hlt)) cx'
      have en : ((lg.take (i + 1)).filter fun x => decide (n < x.seq)).length = ((lg.take i).filter fun x => decide (n < x.seq)).length + 1 := by rw [hst, List.length_append]; rfl
      rw [← hst, ← en] at cx2
      rw [← en] at hr
      exact ⟨p', _, c', w', hr, _, _, stE _ _, cx2, by unfold I64; omega, _, _, lg.length - (i + 1), stE _ _, fun w G cx => cx, ⟨i + 1, _, by omega, by omega, rfl, rfl, rfl, rfl⟩, by omega⟩
    · rw [if_neg (by rw [hn]; simp), List.append_nil] at hst
      exact ⟨by unfold I64; omega, _, _, lg.length - (i + 1), st1, fun w G cx => cx, ⟨i + 1, gs', by omega, by omega, by rw [hst], rfl, by rw [hst], rfl⟩, by omega⟩
  · have hge : i = lg.length := by have := of_decide_eq_false hge; omega
    subst hge
    rw [List.take_length] at cx st1 ⊢
    obtain ⟨l2, hl2⟩ : ∃ l2, (lg.filter fun x => decide (n < x.seq)) = l2 := ⟨_, rfl⟩
    rw [hl2] at cx st1 hK ⊢
    rw [hR0, hΦ3] at cx
    have hq2 : RfQ ⟨sb, tp, tc, lp, lc, xs, p, c, gs'⟩ ⟨t, ls, sq, l2, cn⟩ := ⟨htab, hlev, hok⟩
    have st4 : Stable (fun M w => Φ M w ∧ rfF ⟨sb, tp, tc, lp, lc, xs, p, c, gs'⟩ ⟨t, ls, sq, l2, cn⟩ M w) := instStableRf Φ _ _
    refine ⟨cx.can 1 rfl (by show 0 + 3 + 1 ≤ 5; omega), fun w' hw' => ?_⟩
    have cx5 := cx.put 1 hw' rfl
    have cx6 : Ctx W w' (rlO sb (.slice tp t.length tc) lp lc xs (.int .i64 sq) (.slice p l2.length c) (.int .i64 cn) (.buf p l2.length c gs' 46 3 :: S) ++ G) (fun M w => Φ M w ∧ rfF ⟨sb, tp, tc, lp, lc, xs, p, c, gs'⟩ ⟨t, ls, sq, l2, cn⟩ M w) := (cx5.perm (List.perm_middle (l₁ := [Own.blk sb [.slice tp t.length tc, .slice lp xs.length lc, .int .i64 sq, .slice p l2.length c, .int .i64 cn] 60, Own.buf lp xs.length lc (xs.map LV.cell) 103 1])).symm).weak fun M w h => ⟨h.1.1.1.1, ⟨h.1.1.1.2, h.2⟩, h.1.1.2⟩
    exact ⟨_, _, st4, cx6, fun w G cx => hK ⟨sb, tp, tc, lp, lc, xs, p, c, gs'⟩ w rfl hq2 cx.left⟩
theorem Apply29_use {W w : World} {S : List Own} {Φ : PW} [Stable Φ] {q : RO} {s : StD} {n : Nat} (hq : RfQ q s) (hI : StI s) (hS : StS s n) (hn : n ≤ 400) {m : Int} {k v : ByteArray} (hk : k.size ≤ maxLen) (hv : v.size ≤ maxLen)
    (cx : Ctx W w (rfO q s S) (fun M w => Φ M w ∧ rfF q s M w)) {K : Ending → World → Prop}
    (hK : ∀ q' w', q'.sb = q.sb → RfQ q' (applyS s m k v).2 → Ctx W w' (rfO q' (applyS s m k v).2 S) (fun M w => Φ M w ∧ rfF q' (applyS s m k v).2 M w) → K (.returned (.int .i64 (applyS s m k v).1)) w') :
    Calls Tryz.prog F.errataref29_Store_Apply #[.pointer (some ⟨q.sb, 0, none⟩), .agg #[.int .i64 m, .string k, .string v]] w K := by
  refine (Berrataref29_Store_Apply_run q.sb 0 m k v (J := fun u w' => K (.returned u) w') cx ?_).mono fun e w' ⟨v, he, hj⟩ => by rw [he]; exact hj
  clear cx
  refine fun b w G cx => ⟨s.seq, cx.get 0 rfl rfl, hS.seq, Br.intro (fun h => fun w G cx => ?_) (fun h => fun w G cx => ?_)⟩
  · have h : ¬ m = s.seq + 1 := of_decide_eq_true h
    unfold applyS at hK
    rw [if_neg h] at hK
    exact hK q w rfl hq cx.left
  · have h : m = s.seq + 1 := Decidable.not_not.1 (of_decide_eq_false h)
    unfold applyS at hK
    rw [if_pos h] at hK
    refine Put29_use hq hI hS hn hk hv (S := S ++ G) (Φ := Φ) cx fun q' w' hs hq' cx2 => ⟨rfl, rfO q' (putS s k v) S, _, instStableRf Φ q' _, cx2, fun w G cx => hK q' w hs hq' cx.left⟩
end Go.Proofs.YtebnciehcnedjaaGreatDoor
end

section
namespace Go.Proofs.YtebnciehcnedjaaGreatDoor
open Go.Vc
theorem and29_one (a : Int) : andZ a 1 = 0 ∨ andZ a 1 = 1 := by
  have h : (BitVec.ofInt 64 a &&& BitVec.ofInt 64 1).toNat ≤ 1 := by
    rw [BitVec.toNat_and]
    exact Nat.and_le_right
  unfold andZ
  rcases Nat.le_one_iff_eq_zero_or_eq_one.1 h with h | h
  · rw [h]; left; decide
  · rw [h]; right; decide
theorem rf_b {q : RO} {s : StD} {lg n : Nat} {top : Int} (hq : RfQ q s) (hp : 0 < q.xs.length → q.lp = some ⟨lg, 0, none⟩) (hB : StB top s n) (hn : n ≤ 1000) : RfB q s lg := by
  have hlv := hB.levels
  have hver := hB.c.ver
  exact ⟨hq, hp, hB.i, by omega, by omega, fun l hl => by have := hlv.2.2 l hl; omega, hB.szs⟩
set_option maxHeartbeats 2000000 in
theorem model_use {W w : World} {S : List Own} {Φ : PW} [Stable Φ] {q : RO} {s : StD} {n : Nat} (hq : RfQ q s) (hB : StB 0 s n) (hn : n ≤ 400) {x : OpD} (hk : x.key.size ≤ 1000) (hv : x.val.size ≤ 1000)
    (cx : Ctx W w (rfO q s S) (fun M w => Φ M w ∧ rfF q s M w)) {K : Ending → World → Prop}
    (hK : ∀ q' w', RfQ q' (stepS s x).1 → Ctx W w' (rfO q' (stepS s x).1 S) (fun M w => Φ M w ∧ rfF q' (stepS s x).1 M w) → K (.returned (.tuple #[.pointer (some ⟨q'.sb, 0, none⟩), .int .i64 (stepS s x).2])) w') :
    Calls Tryz.prog F.erratalaw29_model #[.pointer (some ⟨q.sb, 0, none⟩), x.v] w K := by
  have hlog := hB.c.log
  have hver := hB.c.ver
  have hst : Stable (fun M w => Φ M w ∧ rfF q s M w) := instStableRf Φ q s
  refine (Berratalaw29_model_run q.sb 0 x.dop x.n x.key x.val (J := fun u w' => K (.returned u) w') cx ?_).mono fun e w' ⟨v, he, hj⟩ => by rw [he]; exact hj
  clear cx
  unfold stepS at hK
  refine fun _ => ⟨andZ x.dop 7, fun w => and_run _ _ _, Br.intro (fun h5 => fun w G cx => ?_) (fun h5 => Br.intro (fun h6 => fun w G cx => ?_) (fun h6 => Br.intro (fun h7 => ⟨andZ x.n 1, fun w => and_run _ _ _, Br.intro (fun h1 => fun w G cx => ?_) (fun h1 => fun w G cx => ?_)⟩) (fun h7 => fun w G cx => ?_)))⟩
  · rw [if_pos (of_decide_eq_true h5)] at hK
    refine Trim29_use (S := S ++ G) hq hB.l (by omega) x.n cx fun q' w' hb hq' cx2 => ⟨rfl, rfO q' (trimS s x.n) S, _, instStableRf Φ q' _, cx2, fun w G cx => ?_⟩
    have h := hK q' w hq' cx.left
    rw [hb] at h
    exact h
  · rw [if_neg (of_decide_eq_false h5), if_pos (of_decide_eq_true h6)] at hK
    refine Apply29_use (S := S ++ G) hq hB.i hB.c hn (by unfold maxLen; omega) (by unfold maxLen; omega) cx fun q' w' hb hq' cx2 => ⟨_, rfl, rfO q' (applyS s x.n x.key x.val).2 S, _, instStableRf Φ q' _, cx2, fun w G cx => ?_⟩
    have h := hK q' w hq' cx.left
    rw [hb] at h
    exact h
  · have h1 : andZ x.n 1 = 1 := of_decide_eq_true h1
    rw [if_neg (of_decide_eq_false h5), if_neg (of_decide_eq_false h6), if_pos (of_decide_eq_true h7), if_neg (by rw [h1]; decide)] at hK
    obtain ⟨Ψ, lg, stΨ, toΦ, toR, hptr, _, hunlay, hlay⟩ := lay29 (S := S ++ G) hq cx
    have hRB := rf_b hq hptr hB (by omega)
    have hsn := Snapshot29_in (Φ := Ψ) (hΦ := ⟨toR⟩) hRB hB.f (by have := hB.lo; have := hB.hi; unfold I64 at *; omega)
    refine hsn.use (hlay _ _ cx) fun w' cx2 => ⟨_, rfl, rfO q s S, _, hst, hunlay _ _ cx2, fun w G cx => ?_⟩
    have hsc : scanS s tE = allS s := scan_all s
    have hsn : snapB s = bs (snapL s.seq (allS s)) := by unfold snapB; rw [hsc]; rfl
    have ha := all_sub (s := s)
    have hfit : Fit1 (allS s) := fun x hx => hB.f x (ha.2 x hx)
    have hrest : restL (snapL s.seq (allS s)) = some (restS s.seq (allS s)) := rest_snap hB.lo (by have := hB.hi; omega) hfit (all_ne s) (all_asc s) (by omega)
    have hlen : (snapL s.seq (allS s)).length ≤ 1000000 := by
      have h1 := pairsL_len hfit
      have h2 := headL_len (seq := s.seq) (by have := hB.lo; have := hB.hi; unfold I64; omega) (n := (allS s).length) (by omega)
      unfold snapL
      rw [List.length_append]; omega
    rw [hsn]
    have cx3 : Ctx W w (S ++ G) Φ := (Ctx.right (S := rfO q s []) cx).weak fun M w h => h.1
    refine Restore29_use (snapL s.seq (allS s)) hlen cx3 (fun w' h => by rw [hrest] at h; cases h) fun q2 s2 w' hr hq2 cx4 => ?_
    rw [hrest] at hr
    cases hr
    exact ⟨_, _, rfl, rfO q2 (restS s.seq (allS s)) S, _, instStableRf Φ q2 _, cx4, fun w G cx => hK q2 w hq2 cx.left⟩
  · have h1 : andZ x.n 1 = 0 := by
      rcases and29_one x.n with h | h
      · exact h
      · exact absurd h (of_decide_eq_false h1)
    rw [if_neg (of_decide_eq_false h5), if_neg (of_decide_eq_false h6), if_pos (of_decide_eq_true h7), if_pos h1] at hK
    exact hK q w hq cx.left
  · rw [if_neg (of_decide_eq_false h5), if_neg (of_decide_eq_false h6), if_neg (of_decide_eq_false h7)] at hK
    refine Put29_use (S := S ++ G) hq hB.i hB.c hn (by unfold maxLen; omega) (by unfold maxLen; omega) cx fun q' w' hb hq' cx2 => ⟨rfl, rfO q' (putS s x.key x.val) S, _, instStableRf Φ q' _, cx2, fun w G cx => ?_⟩
    have h := hK q' w hq' cx.left
    rw [hb] at h
    exact h
theorem step_cut {top : Int} {s : StD} {n : Nat} (hB : StB top s n) (h : 0 ≤ s.cut) (x : OpD) : 0 ≤ (stepS s x).1.cut := by
  have h1 := hB.lo
  unfold stepS
  split
  · show 0 ≤ cutS s x.n
    unfold cutS
    omega
  · split
    · show 0 ≤ (applyS s x.n x.key x.val).2.cut
      unfold applyS
      split
      · exact h
      · exact h
    · split
      · split
        · exact h
        · exact h1
      · exact h
end Go.Proofs.YtebnciehcnedjaaGreatDoor
end

section
namespace Go.Proofs.YtebnciehcnedjaaGreatDoor
open Go.Vc
theorem two_perm (q : TO) (r : RO) (s t : StD) (S : List Own) : (rfO r t (stO q s S)).Perm (stO q s (rfO r t S)) := by
  rw [rfO_app r t (stO q s S), stO_app q s (rfO r t S), stO_app q s S, rfO_app r t S]
  exact List.perm_append_comm_assoc _ _ _
theorem both_drop {W w : World} {R G : List Own} {Φ : PW} [Stable Φ] {q : TO} {r : RO} {s t : StD} (cx : Ctx W w (stO q s (rfO r t R) ++ G) (fun M w => (Φ M w ∧ rfF r t M w) ∧ stF q s M w)) : Ctx W w R Φ := by
  have st1 : Stable (fun M w => Φ M w ∧ rfF r t M w) := instStableRf Φ r t
  have c1 : Ctx W w (rfO r t R) (fun M w => Φ M w ∧ rfF r t M w) := st_drop cx
  exact (Ctx.right (S := rfO r t []) c1).weak fun M w h => h.1
theorem lay_both {W w : World} {R G : List Own} {Φ : PW} [Stable Φ] {q : TO} {r : RO} {s : StD} (hq : StQ q s) (hr : RfQ r s) (cx : Ctx W w (stO q s (rfO r s R) ++ G) (fun M w => (Φ M w ∧ rfF r s M w) ∧ stF q s M w)) :
    ∃ (Ψ : PW) (lg : Nat), Stable Ψ ∧ (∀ M w, Ψ M w → Φ M w) ∧ (∀ M w, Ψ M w → StR q s M w) ∧ (∀ M w, Ψ M w → RfR r s lg M w) ∧ StC q s ∧ (0 < r.xs.length → r.lp = some ⟨lg, 0, none⟩) ∧ s.log.length ≤ r.gc ∧ Ctx W w (R ++ G) Ψ ∧ (∀ (G : List Own) (w : World), Ctx W w (R ++ G) Ψ → Ctx W w (stO q s (rfO r s R) ++ G) (fun M w => (Φ M w ∧ rfF r s M w) ∧ stF q s M w)) := by
  have st1 : Stable (fun M w => Φ M w ∧ rfF r s M w) := instStableRf Φ r s
  obtain ⟨Ψ1, stΨ1, toΦ, toR, hC, hunlay, hlay⟩ := lay (S := rfO r s R ++ G) (Φ := fun M w => Φ M w ∧ rfF r s M w) hq (cx.re (stO_re q s (rfO r s R) G))
  have cx1 := hlay _ _ (cx.re (stO_re q s (rfO r s R) G))
  have cx2 : Ctx W w (rfO r s (R ++ G)) (fun M w => Ψ1 M w ∧ rfF r s M w) := Ctx.weak (Ψ := fun M w => Ψ1 M w ∧ rfF r s M w) cx1 fun M w h => ⟨h, (toΦ _ _ h).2⟩
  obtain ⟨Ψ2, lg, stΨ2, toΨ1, toRf, hptr, hgc, hunlay2, hlay2⟩ := lay29 (S := R ++ G) hr cx2
  refine ⟨Ψ2, lg, stΨ2, fun M w h => (toΦ _ _ (toΨ1 _ _ h)).1, fun M w h => toR _ _ (toΨ1 _ _ h), toRf, hC, hptr, hgc, hlay2 _ _ cx2, fun G w c => ?_⟩
  have c1 : Ctx W w (rfO r s (R ++ G)) Ψ1 := Ctx.weak (Ψ := Ψ1) (hunlay2 _ _ c) fun M w h => h.1
  exact (hunlay _ _ c1).re (stO_re q s (rfO r s R) G).symm
theorem Since_noS {Φ : PW} {q : TO} {s : StD} [Stable Φ] [hΦ : Has Φ (StR q s)] {n : Int} (h : n < s.cut ∨ s.seq < n) : GivesSl Φ Tryz.prog F.store_Store_Since #[.pointer (some ⟨q.sb, 0, none⟩), .int .i64 n] ([] : List ChgD) (fun v => .tuple #[v, .int .i64 3]) :=
  ⟨fun W w S c => (Since_no (hΦ := hΦ) h).use c fun w' c' => ⟨none, 0, rfl, Nat.le_refl _, Nat.zero_le _, c'.weak fun M w h => ⟨h, Sl.nil⟩⟩⟩
theorem Since29_noS {Φ : PW} {q : RO} {s : StD} {lg : Nat} [Stable Φ] [hΦ : Has Φ (RfR q s lg)] (h0 : 0 ≤ s.cut) {n : Int} (h : n < s.cut ∨ s.seq < n) : GivesSl Φ Tryz.prog F.errataref29_Store_Since #[.pointer (some ⟨q.sb, 0, none⟩), .int .i64 n] ([] : List ChgD) (fun v => .tuple #[v, .int .i64 3]) :=
  ⟨fun W w S c => (Since29_no (hΦ := hΦ) h0 h).use c fun w' c' => ⟨none, 0, rfl, Nat.le_refl _, Nat.zero_le _, c'.weak fun M w h => ⟨h, Sl.nil⟩⟩⟩
theorem since_same {Φ : PW} {q : TO} {r : RO} {s : StD} {lg : Nat} [Stable Φ] (h1 : ∀ M w, Φ M w → StR q s M w) (h2 : ∀ M w, Φ M w → RfR r s lg M w) (hC : StC q s) (hL : StL s) (h0 : 0 ≤ s.cut) (hlg : s.log.length ≤ 1000000) (hgc : s.log.length ≤ r.gc) (n : Int) :
    ∃ (l : List ChgD) (e : Int), l.length ≤ 1000000 ∧ GivesSl Φ Tryz.prog F.store_Store_Since #[.pointer (some ⟨q.sb, 0, none⟩), .int .i64 n] l (fun v => .tuple #[v, .int .i64 e]) ∧
      ∀ (Ψ : PW) [Stable Ψ], (∀ M w, Ψ M w → Φ M w) → GivesSl Ψ Tryz.prog F.errataref29_Store_Since #[.pointer (some ⟨r.sb, 0, none⟩), .int .i64 n] l (fun v => .tuple #[v, .int .i64 e]) := by
  by_cases h : s.cut ≤ n ∧ n ≤ s.seq
  · exact ⟨s.log.drop (n - s.cut).toNat, 0, by rw [List.length_drop]; omega, Since_sl (hΦ := ⟨h1⟩) hC hL hlg h.1 h.2, fun Ψ _ hΨ => Since29_sl (Φ := Ψ) (hΦ := ⟨fun M w h => h2 M w (hΨ M w h)⟩) hL h0 hlg hgc h.1 h.2⟩
  · have h : n < s.cut ∨ s.seq < n := by omega
    exact ⟨[], 3, Nat.zero_le _, Since_noS (hΦ := ⟨h1⟩) h, fun Ψ _ hΨ => Since29_noS (Φ := Ψ) (hΦ := ⟨fun M w h => h2 M w (hΨ M w h)⟩) h0 h⟩
set_option maxHeartbeats 8000000 in
theorem Tells_in {Φ : PW} [Stable Φ] {p : Option Addr} {cap : Nat} {l : List OpD} {pre : ByteArray} {n : Int} (hN : ∀ M w, Φ M w → NumI M w) (hΦ : ∀ M w, Φ M w → Sl M w p l) (hl : l.length ≤ maxLen) (hpre : pre.size ≤ maxLen) :
    GivesIn Φ Tryz.prog F.erratalaw29_StoreTells #[.slice p l.length cap, .string pre, .int .i64 n] (.bool true) := by
  refine .there (fun M w h => (hΦ M w h).there) fun hth => ?_
  refine gives_in (Berratalaw29_StoreTells_run p l.length cap pre n) fun W R => fun w G cx => ?_
  refine (small29_g.in).toB cx fun w G cx => ?_
  refine New_use cx fun q0 w hq0 cx => ⟨_, rfl, stO q0 stNew R, _, instStableSt Φ q0 stNew, cx.re (stO_re _ _ _ _).symm, fun w G cx => ?_⟩
  have hst0 : Stable (fun M w => Φ M w ∧ stF q0 stNew M w) := instStableSt Φ q0 stNew
  have stX : ∀ (r : RO) (q : TO) (s : StD), Stable (fun M w => (Φ M w ∧ rfF r s M w) ∧ stF q s M w) := fun r q s => @instStableSt (fun M w => Φ M w ∧ rfF r s M w) (instStableRf Φ r s) q s
  refine New29_use (S := stO q0 stNew R ++ G) (Φ := fun M w => Φ M w ∧ stF q0 stNew M w) cx fun r0 w hr0 cx => ⟨_, rfl, stO q0 stNew (rfO r0 stNew R), _, stX r0 q0 stNew, ?_, fun w G cx => ?_⟩
  · have h1 : Ctx W w (rfO r0 stNew (stO q0 stNew R) ++ G) (fun M w => (Φ M w ∧ stF q0 stNew M w) ∧ rfF r0 stNew M w) := cx
    exact (h1.perm ((two_perm q0 r0 stNew stNew R).append_right G)).weak fun M w h => ⟨⟨h.1.1, h.2⟩, h.1.2⟩
  have hst1 := stX r0 q0 stNew
  refine (few_in (Φ := fun M w => (Φ M w ∧ rfF r0 stNew M w) ∧ stF q0 stNew M w) (fun M w h => hΦ M w h.1.1) hl).toB cx (Br.intro (fun _ => fun w G cx => fun w G cx => ⟨rfl, both_drop cx⟩) (fun hf => Br.intro (fun h => by cases h) (fun _ => ?_)))
  have hl3 := fewO_len (few_yes hf)
  have hfit := fewO_fit (few_yes hf)
  clear cx
  refine exI_mk (fun pS pR nI R' Φ' k => ∃ (i : Nat) (q : TO) (r : RO) (s : StD), nI = i ∧ i ≤ l.length ∧ pS = some ⟨q.sb, 0, none⟩ ∧ pR = some ⟨r.sb, 0, none⟩ ∧ StQ q s ∧ RfQ r s ∧ StB 0 s i ∧ 0 ≤ s.cut ∧ R' = stO q s (rfO r s R) ∧ Φ' = (fun M w => (Φ M w ∧ rfF r s M w) ∧ stF q s M w) ∧ k = l.length - i)
    ⟨⟨_, _, _, hst1, fun w G cx => cx, 0, q0, r0, stNew, rfl, Nat.zero_le _, rfl, rfl, hq0, hr0, new_b, Int.le_refl 0, rfl, rfl, rfl⟩, ?_⟩
  rintro pS pR nI R1 Φ1 k _ ⟨i, q, r, s, rfl, hi, rfl, rfl, hq, hr, hB, hcut, rfl, rfl, rfl⟩
  refine Br.intro (fun hlt => ?_) (fun hge => fun w G cx => ?_)
  rotate_left
  · -- what both tell at the end
    have hge : i = l.length := by have := of_decide_eq_false hge; omega
    subst hge
    have hlv := hB.levels
    have hver := hB.c.ver
    have hlog := hB.c.log
    have hsq0 := hB.lo
    have hsq1 := hB.hi
    have hszs := hB.szs
    obtain ⟨Ψ, lg, stΨ, toΦ, toR, toF, hC, hptr, hgc, cxa, _⟩ := lay_both hq hr cx
    clear cx
    have hRB := rf_b hr hptr hB (by omega)
    have ha := all_sub (s := s)
    have hsc : scanS s tE = allS s := scan_all s
    have hscl : (scanS s pre).length ≤ 1000 := by
      have h1 : scanS s pre = (allS s).filter fun x => preP pre x.key := rfl
      have h2 := List.length_filter_le (fun x : PairD => preP pre x.key) (allS s)
      rw [h1]; omega
    obtain ⟨lc, ec, hlc, hs1, hs2⟩ := since_same toR toF hC hB.l hcut (by omega) hgc n
    refine hs1.use cxa fun p1 c1 w _ _ cx => ?_
    have st1 : Stable (fun M w => Ψ M w ∧ Sl M w p1 lc) := instStableAnd Ψ (fun M w => Sl M w p1 lc)
    refine ⟨p1, _, c1, _, rfl, R, _, st1, cx, fun w G cx => ?_⟩
    clear cxa
    refine (hs2 (fun M w => Ψ M w ∧ Sl M w p1 lc) fun M w h => h.1).use cx fun p2 c2 w _ _ cx => ?_
    obtain ⟨Ψ2, hΨ2⟩ : ∃ Ψ2 : PW, Ψ2 = (fun M w => (Ψ M w ∧ Sl M w p1 lc) ∧ Sl M w p2 lc) := ⟨_, rfl⟩
    have st2 : Stable Ψ2 := by rw [hΨ2]; exact instStableAnd (fun M w => Ψ M w ∧ Sl M w p1 lc) (fun M w => Sl M w p2 lc)
    have k1 : ∀ M w, Ψ2 M w → Sl M w p1 lc := fun M w h => by rw [hΨ2] at h; exact h.1.2
    have k2 : ∀ M w, Ψ2 M w → Sl M w p2 lc := fun M w h => by rw [hΨ2] at h; exact h.2
    have k0 : ∀ M w, Ψ2 M w → Ψ M w := fun M w h => by rw [hΨ2] at h; exact h.1.1
    rw [← hΨ2] at cx
    refine ⟨p2, _, c2, _, rfl, R, Ψ2, st2, cx, Br.intro (fun _ => Br.intro (fun _ => fun w G cx => ?_) (fun h => absurd rfl (of_decide_eq_false h))) (fun h => by cases h)⟩
    refine (SameChanges_yes (Φ := Ψ2) k1 k2 hlc).toB cx (Br.intro (fun _ => fun w G cx => ?_) (fun h => by cases h))
    have hscan : GivesSl Ψ2 Tryz.prog F.store_Store_Scan #[.pointer (some ⟨q.sb, 0, none⟩), .string pre] (scanS s pre) id := Scan_sl (hΦ := ⟨fun M w h => toR _ _ (k0 _ _ h)⟩) hC (by omega) (by omega) (by omega) hszs hpre
    refine hscan.tot cx fun p3 c3 _ _ ht3 st3 => fun w G cx => ?_
    have hscan2 : GivesSl (fun M w => Ψ2 M w ∧ Sl M w p3 (scanS s pre)) Tryz.prog F.errataref29_Store_Scan #[.pointer (some ⟨r.sb, 0, none⟩), .string pre] (scanS s pre) id := Scan29_sl (hΦ := ⟨fun M w h => toF _ _ (k0 _ _ h.1)⟩) hRB pre
    refine hscan2.tot cx fun p4 c4 _ _ ht4 st4 => fun w G cx => ?_
    refine (SamePairs_in (Φ := fun M w => (Ψ2 M w ∧ Sl M w p3 (scanS s pre)) ∧ Sl M w p4 (scanS s pre)) (fun M w h => h.1.2) (fun M w h => h.2) (by unfold maxLen; omega)).toB cx (Br.intro (fun _ => fun w G cx => ?_) (fun h => absurd rfl (of_decide_eq_false h)))
    obtain ⟨Ψ3, hΨ3⟩ : ∃ Ψ3 : PW, Ψ3 = (fun M w => (Ψ2 M w ∧ Sl M w p3 (scanS s pre)) ∧ Sl M w p4 (scanS s pre)) := ⟨_, rfl⟩
    have st5 : Stable Ψ3 := by rw [hΨ3]; exact st4
    have k3 : ∀ M w, Ψ3 M w → Ψ M w := fun M w h => by rw [hΨ3] at h; exact k0 _ _ h.1.1
    rw [← hΨ3] at cx
    have hlen := Len_in (Φ := Ψ3) (hΦ := ⟨fun M w h => toR _ _ (k3 _ _ h)⟩) hC (by omega) (by omega) (by omega) hszs
    refine hlen.toI cx fun w G cx => ?_
    have hall : GivesSl Ψ3 Tryz.prog F.errataref29_Store_All #[.pointer (some ⟨r.sb, 0, none⟩)] (allS s) id := All29_sl (hΦ := ⟨fun M w h => toF _ _ (k3 _ _ h)⟩) hRB
    refine hall.tot cx fun p5 c5 _ _ ht5 st6 => Br.intro (fun _ => fun w G cx => ?_) (fun h => absurd (by rw [hsc]) (of_decide_eq_false h))
    have hs7 := Snapshot_in (Φ := fun M w => Ψ3 M w ∧ Sl M w p5 (allS s)) (hΦ := ⟨fun M w h => toR _ _ (k3 _ _ h.1)⟩) (fun M w h => (hN M w (toΦ _ _ (k3 _ _ h.1))).1) hC (by omega) (by omega) (by omega) hB.f (by unfold I64; omega)
    refine hs7.toS cx fun w G cx => ?_
    have hs8 := Snapshot29_in (Φ := fun M w => Ψ3 M w ∧ Sl M w p5 (allS s)) (hΦ := ⟨fun M w h => toF _ _ (k3 _ _ h.1)⟩) hRB hB.f (by unfold I64; omega)
    refine hs8.toS cx fun w G cx => ⟨by rw [decide_eq_true rfl], cx.left.weak fun M w h => toΦ _ _ (k3 _ _ h.1)⟩
  -- an operation
  have hlt : i < l.length := by have := of_decide_eq_true hlt; omega
  obtain ⟨g, o, rfl⟩ := hth (by omega)
  have hfx := hfit _ (List.getElem_mem hlt)
  have stR0 : Stable (fun M w => Φ M w ∧ rfF r s M w) := instStableRf Φ r s
  refine ⟨⟨by omega, by omega⟩, ptrK_intro g o rfl fun w G cx => ⟨l[i].dop, l[i].n, l[i].key, l[i].val, by rw [Int.toNat_natCast]; exact sl_op (hΦ _ _ cx.phi.1.1) hlt, fun w G cx => ?_⟩⟩
  refine do_use (S := rfO r s R ++ G) (Φ := fun M w => Φ M w ∧ rfF r s M w) (fun M w h => hN M w h.1) hq hB (by omega) hfx.1 hfx.2 (cx.re (stO_re q s (rfO r s R) G)) fun q' w hq' cx => ?_
  obtain ⟨s', hs'⟩ : ∃ s', (stepS s l[i]).1 = s' := ⟨_, rfl⟩
  have hB' : StB 0 s' (i + 1) := by rw [← hs']; exact step_b ⟨by decide, by decide⟩ (by omega) hB hfx.1 hfx.2
  have hcut' : 0 ≤ s'.cut := by rw [← hs']; exact step_cut hB hcut l[i]
  rw [hs'] at hq' cx
  have stY : Stable (fun M w => (Φ M w ∧ rfF r s M w) ∧ stF q' s' M w) := instStableSt (fun M w => Φ M w ∧ rfF r s M w) q' s'
  refine ⟨_, _, rfl, stO q' s' (rfO r s R), _, stY, cx.re (stO_re q' s' (rfO r s R) G).symm, ⟨by omega, by omega⟩, ptrK_intro g o rfl fun w G cx => ⟨l[i].dop, l[i].n, l[i].key, l[i].val, by rw [Int.toNat_natCast]; exact sl_op (hΦ _ _ cx.phi.1.1) hlt, fun w G cx => ?_⟩⟩
  have stZ : Stable (fun M w => Φ M w ∧ stF q' s' M w) := instStableSt Φ q' s'
  have cxr : Ctx W w (rfO r s (stO q' s' R ++ G)) (fun M w => (Φ M w ∧ stF q' s' M w) ∧ rfF r s M w) := Ctx.weak (Ψ := fun M w => (Φ M w ∧ stF q' s' M w) ∧ rfF r s M w) (cx.perm ((two_perm q' r s' s R).symm.append_right G)) fun M w h => ⟨⟨h.1.1, h.2⟩, h.1.2⟩
  refine model_use (S := stO q' s' R ++ G) (Φ := fun M w => Φ M w ∧ stF q' s' M w) hr hB (by omega) hfx.1 hfx.2 cxr fun r' w hr' cx => ?_
  clear cxr
  rw [hs'] at hr' cx
  have cxb : Ctx W w (stO q' s' (rfO r' s' R) ++ G) (fun M w => (Φ M w ∧ rfF r' s' M w) ∧ stF q' s' M w) := by
    have h1 : Ctx W w (rfO r' s' (stO q' s' R) ++ G) (fun M w => (Φ M w ∧ stF q' s' M w) ∧ rfF r' s' M w) := cx
    exact (h1.perm ((two_perm q' r' s' s' R).append_right G)).weak fun M w h => ⟨⟨h.1.1, h.2⟩, h.1.2⟩
  clear cx
  have hlv := hB'.levels
  have hver := hB'.c.ver
  have hlog := hB'.c.log
  have hsq0 := hB'.lo
  have hsq1 := hB'.hi
  have hszs := hB'.szs
  obtain ⟨Ψ, lg, stΨ, toΦ, toR, toF, hC, hptr, hgc, cxa, hback⟩ := lay_both hq' hr' cxb
  clear cxb
  have hRB := rf_b hr' hptr hB' (by omega)
  have hrunl : ∀ x ∈ s'.levels, ∀ y ∈ x, y.length ≤ 10000 := fun x hx y hy => by
    have h3 := (List.sublist_flatten_of_mem (List.mem_flatten.2 ⟨_, hx, hy⟩)).length_le
    have h4 : (verP s').length = s'.table.length + (allRuns s'.levels).length := List.length_append
    have h5 : s'.levels.flatten.flatten.length = (allRuns s'.levels).length := rfl
    omega
  refine ⟨_, _, rfl, R, Ψ, stΨ, cxa, fun w G cx => Br.intro (fun h => by simp at h) (fun _ => ?_)⟩
  clear cxa cx
  refine ⟨R, Ψ, stΨ, fun w G cx => cx, ptrK_intro _ _ rfl ⟨s'.seq, fun w G cx => ⟨s'.seq, ?_, rfl⟩, fun w G cx => ?_⟩⟩
  · have := (toF _ _ cx.phi).1.1.2.1 2 (by show 2 < 5; decide)
    rw [Nat.zero_add] at this
    exact this
  refine (Seq_in (Φ := Ψ) (hΦ := ⟨toR⟩)).toI cx ⟨fun w G cx => cx, R, Ψ, stΨ, fun w G cx => cx, Br.intro (fun h => absurd rfl (of_decide_eq_true h)) (fun _ => fun w G cx => ?_)⟩
  refine (Versions_in (Φ := Ψ) (hΦ := ⟨toR⟩) hC (by omega) (by omega) (by omega)).toI cx ⟨fun w G cx => cx, fun w G cx => ?_⟩
  refine (Versions29_in (Φ := Ψ) (hΦ := ⟨toF⟩) hRB).toI cx ⟨R, Ψ, stΨ, fun w G cx => cx, Br.intro (fun h => absurd rfl (of_decide_eq_true h)) (fun _ => fun w G cx => ?_)⟩
  have hruns : GivesSl Ψ Tryz.prog F.store_Store_Runs #[.pointer (some ⟨q'.sb, 0, none⟩)] (runsL s') id := Runs_sl (hΦ := ⟨toR⟩) (by omega) (fun x hx => by have := hlv.2.2 x hx; omega) (fun x hx y hy => by have := hrunl x hx y hy; omega)
  refine hruns.tot cx fun p3 c3 _ _ ht3 st3 => ⟨fun w G cx => cx.weak fun M w h => h.1, fun w G cx => ?_⟩
  have hruns2 : GivesSl (fun M w => Ψ M w ∧ Sl M w p3 (runsL s')) Tryz.prog F.errataref29_Store_Runs #[.pointer (some ⟨r'.sb, 0, none⟩)] (runsL s') id := Runs29_sl (hΦ := ⟨fun M w h => toF _ _ h.1⟩) hRB
  refine hruns2.tot cx fun p4 c4 _ _ ht4 st4 => fun w G cx => ?_
  have hrl := runsL_len s'
  have hll := lastN_le s'.levels
  refine (SameRuns_yes (Φ := fun M w => (Ψ M w ∧ Sl M w p3 (runsL s')) ∧ Sl M w p4 (runsL s')) (fun M w h => h.1.2) (fun M w h => h.2) (by omega) (fun x hx => ?_)).toB cx ⟨R, Ψ, stΨ, fun w G cx => cx.weak fun M w h => h.1.1, Br.intro (fun h => by cases h) (fun _ => ?_)⟩
  · obtain ⟨j, hj, rfl⟩ := List.getElem_of_mem hx
    obtain ⟨h2, e⟩ := runsL_at hj
    rw [e, List.length_map]
    have := hlv.2.2 _ (List.getElem_mem h2)
    omega
  have hkey : ∀ (w : World) (G : List Own), Ctx W w (R ++ G) Ψ → w.cell? ⟨g, o + (i : Int).toNat * 4 + 2, none⟩ = some (.string l[i].key) := fun w G cx => by
    rw [Int.toNat_natCast]
    exact sl_op (hΦ _ _ (toΦ _ _ cx.phi)) hlt 2 (by show 2 < 4; decide)
  refine ⟨⟨by omega, by omega⟩, ptrK_intro g o rfl ⟨⟨by omega, by omega⟩, ptrK_intro g o rfl ⟨l[i].key, fun w G cx => ⟨_, hkey _ _ cx, rfl⟩, l[i].key, fun w G cx => ⟨_, hkey _ _ cx, rfl⟩, fun w G cx => ?_⟩⟩⟩
  have hget := Get_in (Φ := fun M w => (Ψ M w ∧ Sl M w p3 (runsL s')) ∧ Sl M w p4 (runsL s')) (hΦ := ⟨fun M w h => toR _ _ h.1.1⟩) hC hB'.i (by omega) (by omega) (by omega) l[i].key
  refine hget.toS cx ⟨fun w G cx => cx.weak fun M w h => h.1.1, fun w G cx => ?_⟩
  have hget2 := Get29_in (Φ := fun M w => (Ψ M w ∧ Sl M w p3 (runsL s')) ∧ Sl M w p4 (runsL s')) (hΦ := ⟨fun M w h => toF _ _ h.1.1⟩) hRB l[i].key
  refine hget2.toS cx (Br.intro (fun h => absurd rfl (of_decide_eq_true h)) (fun _ => ⟨by unfold I64; omega, stO q' s' (rfO r' s' R), _, l.length - (i + 1), stX r' q' s', fun w G cx => hback _ _ (cx.weak fun M w h => h.1.1), ⟨i + 1, q', r', s', by omega, by omega, rfl, rfl, hq', hr', hB', hcut', rfl, rfl, rfl⟩, by omega⟩))
end Go.Proofs.YtebnciehcnedjaaGreatDoor
end

section
namespace Go.Proofs.YtebnciehcnedjaaGreatDoor
open Go.Vc Go.RowKit
theorem la_row (u : TypeId) (h : Tryz.prog.typeName? 3 u = some "*errors.errorString") : u = 172 :=
  typeName_ptr_named (nm := "errors.errorString") (by rw [show "*" ++ "errors.errorString" = "*errors.errorString" by decide]; kernel_rfl) (by kernel_rfl) (by decide) u (by rw [show "*" ++ "errors.errorString" = "*errors.errorString" by decide]; exact h)
theorem la_err {n : String} {text : List UInt8} {r : List (String × DataW Unit)} {W : World} {g : Nat} (h : laidMet Tryz.prog ((n, .iface "*errors.errorString" (.ptr (.agg [.lit (.string text)]))) :: r) W)
    (hg : Tryz.prog.globalNamed n = some g) (ht : (Tryz.prog.globals[g]?).map (·.type) = some 91) : ErrAt g [] W := by
  obtain ⟨a, s, hv, _⟩ := laid_sentinel h hg ht Tryz.underlying91 la_row Tryz.underlying172 Tryz.underlying174 rfl rfl Tryz.underlying9 (by kernel_rfl) (by kernel_rfl)
  exact ⟨by simp, _, by have h0 := World.var?_cell hg hv 0; simpa using h0, .inr ⟨_, _, rfl⟩⟩
theorem la_num {W : World} (h : laidMetH Tryz.prog Rows.storeBoundsRow.laid W) : NumI [] W := by
  rw [MakeChecks.laidMetH_plain Tryz.prog Rows.storeBoundsRow.laid W (by kernel_rfl)] at h
  have h2 := h.tail.tail
  exact ⟨Tab.start (Lib.tabIs_of_head (k := .u64) (zs := Lib.pow10Tab) (g := 3) (t := 166) (e := 154) (n := 20) (by kernel_rfl) (by kernel_rfl) (by kernel_rfl) (by kernel_rfl) (by kernel_rfl) (by kernel_rfl) h2),
    la_err h2.tail.tail (by kernel_rfl) (by kernel_rfl), la_err h2.tail (by kernel_rfl) (by kernel_rfl)⟩
end Go.Proofs.YtebnciehcnedjaaGreatDoor
end

section
namespace Go.Proofs.YtebnciehcnedjaaGreatDoor
open Go.ChangeShapes Go.WideShapes Go.ChangeAt Go.RowKit Go.Vc
theorem df_own : ownKnob Tryz.prog.godebug = none := by kernel_rfl
theorem df_laid : laidOutB Tryz.prog = true := by kernel_rfl
theorem trodAll_n {H : Type} {enc : TypeId × Value → H} {P : Program} {w : World} {base : Nat} {spare : Nat → Bool} {held : Bool} {t0 t1 t2 : TypeId} {args : Array Value} {ds : List (DataW H)} {ps : List MemPlace} (h : DataW.TrodAll enc P w base spare held [t0, t1, t2] args.toList ds ps) :
    ∃ v0 v1 v2 d0 d1 d2 p0 p1 p2, args = #[v0, v1, v2] ∧ ds = [d0, d1, d2] ∧ ps = p0 ++ p1 ++ p2 ∧ DataW.Trod enc P w base spare held t0 v0 d0 p0 ∧ DataW.Trod enc P w base spare held t1 v1 d1 p1 ∧ DataW.Trod enc P w base spare held t2 v2 d2 p2 := by
  obtain ⟨v0, vs0, d0, ds0, p0, q0, hargs, rfl, rfl, h0, h⟩ := trodAll_cons h
  obtain ⟨v1, vs1, d1, ds1, p1, q1, rfl, rfl, rfl, h1, h⟩ := trodAll_cons h
  obtain ⟨v2, vs2, d2, ds2, p2, q2, rfl, rfl, rfl, h2, h⟩ := trodAll_cons h
  obtain ⟨rfl, rfl, rfl⟩ := trodAll_nil h
  exact ⟨v0, v1, v2, d0, d1, d2, p0, p1, p2, by cases args; simp_all, rfl, by simp, h0, h1, h2⟩
theorem door_met (os : Os) (args : Array Value) : laidMetH Tryz.prog Rows.storeTellsRow.laid ((World.doorLaid Tryz.prog 400 os).forCall (fun _ _ => 0) ⟨#[], args, []⟩).memory :=
  laidMetH_of_parts3 (fuel := 8) (laidMet_of_run' 8 (by kernel_rfl) (by kernel_rfl)) (by kernel_rfl) (by kernel_rfl)
set_option maxRecDepth 100000 in
theorem law_lifted (os : Os) (started : os.Started) (H : Type) (enc : TypeId × Value → H) :
    ReturnsInHanded {} Tryz.checked os 6 .any (fun w args => (Rows.storeTellsSpec.pre enc Tryz.prog Tryz.f6 Rows.storeTellsRow.domain false w args ∧ laidMetH Tryz.prog Rows.storeTellsRow.laid w) ∧ sizedMet enc Tryz.prog Tryz.f6 (OpenSpec.ofChange Rows.storeTellsSpec) false w args) (Rows.storeTellsSpec.post enc Tryz.prog Tryz.f6 false true false false) := by
  refine lawTrueLaid (C := Tryz.checked) (tb := 4) df_own started (by kernel_rfl) Tryz.func6 df_laid rfl ?_ rfl Tryz.underlying4 (by kernel_rfl)
    (ChangeSpec.witness_shaped (enc := enc) (C := Tryz.checked) (os := os) (X := fun w _ => laidMetH Tryz.prog Rows.storeTellsRow.laid w) false (World.doorLaid Tryz.prog 400 os) #[.slice none 0 0, .string .empty, .int .i64 0] 8 rfl (World.shaped_of_RefB (by kernel_rfl) (by kernel_rfl)) (by kernel_rfl) (by kernel_rfl) (by kernel_rfl) (door_met os _)) ?_
  · intro ds hd
    match ds, hd with
    | [_, _, _], _ => exact ⟨rfl, rfl, rfl⟩
  · intro W base args ds p hval0 hA0 _ hL
    have hval : ∀ (j : Nat) t v, Tryz.f6.params[j]? = some t → args[j]? = some v → Value.okWide Tryz.prog W .any base t v := hval0
    have hA : DataW.TrodAll enc Tryz.prog W 0 (fun _ => true) true Tryz.f6.params.toList args.toList ds p := hA0
    rw [Tryz.params6] at hA hval
    obtain ⟨v0, v1, v2, d0, d1, d2, p0, p1, p2, rfl, rfl, rfl, h0, h1, h2⟩ := trodAll_n hA
    obtain ⟨lp, lc, l, rfl, la, lb, s0⟩ := open_sl (α := OpD) 12 Tryz.underlying22 (hval 0 22 v0 rfl rfl) (by kernel_rfl) h0
    obtain ⟨pre, rfl, rfl, rfl, prew⟩ := Go.ChangeMaps.open_string Tryz.underlying9 (hval 1 9 v1 rfl rfl) h1
    obtain ⟨n, rfl, rfl, rfl, nw⟩ := open_int Tryz.underlying3 (hval 2 3 v2 rfl rfl) h2
    have st0 : Stable (fun M w => Sl M w lp l) := inferInstance
    have st1 : Stable (fun M w => NumI M w ∧ Sl M w lp l) := instStableAnd (fun M w => NumI M w) (fun M w => Sl M w lp l)
    have fin : GivesIn (fun M w => NumI M w ∧ Sl M w lp l) Tryz.prog 6 _ (.bool true) := Tells_in (Φ := (fun M w => NumI M w ∧ Sl M w lp l)) (p := lp) (cap := lc) (l := l) (pre := pre) (n := n) (fun _ _ h => h.1) (fun _ _ h => h.2) (by omega) (by omega)
    exact fin.law ⟨la_num hL, s0⟩
theorem row_holds : Rows.StoreTellsSaid :=
  OpenClaim.holds_of_wide 6 Tryz.f6 rfl rfl rfl rfl rfl rfl rfl ⟨rfl, rfl, rfl, rfl, rfl⟩ rfl rfl rfl rfl rfl (by kernel_rfl) Tryz.func6 (by kernel_rfl)
    (of_decide_eq_true (by kernel_rfl)) (by unfold Func.isWrapper; first | (rw [if_pos (by decide +kernel)]; kernel_rfl) | (rw [if_neg (by decide +kernel)]; exact ⟨rfl, rfl⟩))
    (fun os started H enc _ => law_lifted os started H enc)
theorem tells_holds : Rows.StoreTellsCardSaid :=
  Claim7.holds_tied_plain_at .later [] [.data, .data, .data, .sentinel, .sentinel] true Rows.storeTellsCard.stood.harness true
    row_holds (fun _ h => by cases h) (by kernel_rfl) (fun _ h => by cases h) storeTells_row_tie rfl ⟨rfl, rfl⟩ (by kernel_rfl) rfl
    (fun f fn hf hfn => by
      obtain rfl : f = 6 := Option.some.inj ((show Tryz.prog.funcNamed Rows.storeTellsRow.func = some 6 by kernel_rfl).symm.trans hf) |>.symm
      obtain rfl : fn = Tryz.f6 := (Option.some.inj (Tryz.func6.symm.trans hfn)).symm
      exact ⟨by kernel_rfl, fun j t ht => by
        rw [Tryz.params6] at ht
        have hm := Array.mem_of_getElem? ht
        have hall : ((Tryz.f6.params.toList).all fun u => !Tryz.prog.wantsStandIn u) = true := by kernel_rfl
        rw [Tryz.params6] at hall
        exact (show Tryz.prog.wantsStandIn t = false by simpa using List.all_eq_true.1 hall t (by simpa using hm))⟩)
    (by kernel_rfl)
end Go.Proofs.YtebnciehcnedjaaGreatDoor
end

