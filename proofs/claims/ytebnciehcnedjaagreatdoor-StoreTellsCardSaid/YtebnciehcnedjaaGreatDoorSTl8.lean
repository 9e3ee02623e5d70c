/-
  How much a store holds after Put, in plain Lean.
-/
import Derived.Test.YtebnciehcnedjaaGreatDoorSTl7
import Derived.Test.YtebnciehcnedjaaGreatDoorSTl6
import Derived.Shelf.Strings.Builder1
import Derived.Shelf.Small.Strs
import Derived.Shelf.Small.Wraps
import Derived.Shelf.Strconv.Atoi
import Derived.Shelf.Strconv.Itoa0
import Derived.Shelf.Strconv.Itoa1
import Derived.Shelf.LaysM
import Derived.Shelf.Strconv.Itoa2
import Derived.Shelf.Strconv.Itoa3
import Derived.Shelf.Strconv.AtoiErrFast
import Derived.Shelf.Strconv.ParseIntEmpty
import Derived.Shelf.Strconv.AtoiFail
import Derived.Shelf.Strconv.Clone
import Derived.Shelf.Strconv.SyntaxError
import Derived.Shelf.LaysC
import Derived.Shelf.Strconv.ToError
import Derived.Shelf.Strconv.Lower
import Derived.Shelf.Strconv.ParseUint10
import Derived.Shelf.Strconv.ParseUint10Empty
import Derived.Shelf.Strconv.ParseUint10Any
import Derived.Shelf.Strconv.ParseInt10
import Derived.Shelf.Strconv.AtoiLong
import Derived.Shelf.Strconv.AtoiInnerAll
import Derived.Shelf.Strconv.RangeError
import Derived.Shelf.Strconv.ToErrorRange
import Derived.Shelf.Strconv.AtoiAll
import Derived.Shelf.Strings.Search1
import Derived.Shelf.Strings.Prefix
import Derived.Test.YtebnciehcnedjaaGreatDoorRows

set_option linter.unusedVariables false
set_option linter.unusedSimpArgs false
section
namespace Go.Proofs.YtebnciehcnedjaaGreatDoor
open Go.Vc
theorem settle_less : ∀ (m : Nat) (ls : List Lev), cntL ls ≤ m → cntL (settleL ls) ≤ cntL ls ∧ (allRuns (settleL ls)).length ≤ (allRuns ls).length
  | m, [], _ => by rw [settleL_nil]; exact ⟨Nat.le_refl _, Nat.le_refl _⟩
  | 0, l :: t, h => by
    have : cntL (l :: t) = l.length + 1 + cntL t := by unfold cntL; simp; omega
    omega
  | m + 1, l :: t, h => by
    have hc : cntL (l :: t) = l.length + 1 + cntL t := by unfold cntL; simp; omega
    by_cases h4 : l.length < 4
    · obtain ⟨h1, h2⟩ := settle_less m t (by omega)
      rw [settleL_less h4]
      have hc2 : cntL (l :: settleL t) = l.length + 1 + cntL (settleL t) := by unfold cntL; simp; omega
      rw [allRuns_cons, allRuns_cons, List.length_append, List.length_append]
      exact ⟨by omega, by omega⟩
    · have ha := addL_cnt t (pushR l t)
      obtain ⟨h1, h2⟩ := settle_less m (addL t (pushR l t)) (by omega)
      rw [settleL_more h4]
      have hc2 : cntL ([] :: settleL (addL t (pushR l t))) = 0 + 1 + cntL (settleL (addL t (pushR l t))) := by unfold cntL; simp; omega
      rw [addL_runs, List.length_append] at h2
      have h5 := push_len l t
      rw [allRuns_cons, allRuns_cons, List.length_append, List.length_append]
      exact ⟨by omega, by simp only [List.flatten_nil, List.length_nil]; omega⟩
theorem put_cnt (s : StD) (k v : ByteArray) : cntL (putS s k v).levels ≤ cntL s.levels + 2 := by
  show cntL (settleL (if (putK ⟨k, v⟩ s.table).length = 8 then addL s.levels (putK ⟨k, v⟩ s.table) else s.levels)) ≤ _
  split
  · have h1 := (settle_less _ (addL s.levels (putK ⟨k, v⟩ s.table)) (Nat.le_refl _)).1
    have h2 := addL_cnt s.levels (putK ⟨k, v⟩ s.table)
    omega
  · have h1 := (settle_less _ s.levels (Nat.le_refl _)).1
    omega
theorem put_ver (s : StD) (k v : ByteArray) : (verP (putS s k v)).length ≤ (verP s).length + 1 := by
  have hp := (putK_len ⟨k, v⟩ s.table).2
  show ((if (putK ⟨k, v⟩ s.table).length = 8 then [] else putK ⟨k, v⟩ s.table) ++ allRuns (settleL (if (putK ⟨k, v⟩ s.table).length = 8 then addL s.levels (putK ⟨k, v⟩ s.table) else s.levels))).length ≤ (s.table ++ allRuns s.levels).length + 1
  by_cases e : (putK ⟨k, v⟩ s.table).length = 8
  · rw [if_pos e, if_pos e]
    have h1 := (settle_less _ (addL s.levels (putK ⟨k, v⟩ s.table)) (Nat.le_refl _)).2
    rw [addL_runs, List.length_append] at h1
    rw [List.length_append, List.length_append, List.length_nil]
    omega
  · rw [if_neg e, if_neg e]
    have h1 := (settle_less _ s.levels (Nat.le_refl _)).2
    rw [List.length_append, List.length_append]
    omega
theorem put_log (s : StD) (k v : ByteArray) : (putS s k v).log.length = s.log.length + 1 := by
  show (s.log ++ [(⟨s.seq + 1, k, v⟩ : ChgD)]).length = _
  rw [List.length_append]
  rfl
theorem put_s {s : StD} {n : Nat} (h : StS s n) (k v : ByteArray) (hs : I64 (s.seq + 1 + 1)) : StS (putS s k v) (n + 1) :=
  ⟨by have := put_cnt s k v; have := h.cnt; omega, by have := put_ver s k v; have := h.ver; omega, by rw [put_log]; have := h.log; omega, hs⟩
theorem settle_mem : ∀ (m : Nat) (ls : List Lev), cntL ls ≤ m → ∀ x ∈ allRuns (settleL ls), x ∈ allRuns ls
  | m, [], _, x, h => by rwa [settleL_nil] at h
  | 0, l :: t, h, _, _ => by
    have : cntL (l :: t) = l.length + 1 + cntL t := by unfold cntL; simp; omega
    omega
  | m + 1, l :: t, h, x, hx => by
    have hc : cntL (l :: t) = l.length + 1 + cntL t := by unfold cntL; simp; omega
    by_cases h4 : l.length < 4
    · rw [settleL_less h4, allRuns_cons] at hx
      rw [allRuns_cons]
      rcases List.mem_append.1 hx with hx | hx
      · exact List.mem_append_left _ hx
      · exact List.mem_append_right _ (settle_mem m t (by omega) x hx)
    · have ha := addL_cnt t (pushR l t)
      rw [settleL_more h4, allRuns_cons, List.flatten_nil, List.nil_append] at hx
      have h1 := settle_mem m (addL t (pushR l t)) (by omega) x hx
      rw [addL_runs] at h1
      rw [allRuns_cons]
      rcases List.mem_append.1 h1 with h1 | h1
      · refine List.mem_append_left _ ?_
        unfold pushR at h1
        split at h1
        · exact normK_mem x (List.mem_filter.1 h1).1
        · exact normK_mem x h1
      · exact List.mem_append_right _ h1
theorem put_mem {s : StD} {k v : ByteArray} : ∀ x ∈ verP (putS s k v), x = ⟨k, v⟩ ∨ x ∈ verP s := fun x hx => by
  have hx : x ∈ (if (putK ⟨k, v⟩ s.table).length = 8 then [] else putK ⟨k, v⟩ s.table) ++ allRuns (settleL (if (putK ⟨k, v⟩ s.table).length = 8 then addL s.levels (putK ⟨k, v⟩ s.table) else s.levels)) := hx
  have fin : x ∈ putK ⟨k, v⟩ s.table → x = ⟨k, v⟩ ∨ x ∈ verP s := fun h => by
    rcases putK_mem h with h | h
    · exact .inl h
    · exact .inr (List.mem_append_left _ h)
  by_cases e : (putK ⟨k, v⟩ s.table).length = 8
  · rw [if_pos e, if_pos e, List.nil_append] at hx
    have h1 := settle_mem _ _ (Nat.le_refl _) x hx
    rw [addL_runs] at h1
    rcases List.mem_append.1 h1 with h1 | h1
    · exact fin h1
    · exact .inr (List.mem_append_right _ h1)
  · rw [if_neg e, if_neg e] at hx
    rcases List.mem_append.1 hx with hx | hx
    · exact fin hx
    · exact .inr (List.mem_append_right _ (settle_mem _ _ (Nat.le_refl _) x hx))
end Go.Proofs.YtebnciehcnedjaaGreatDoor
end

section
namespace Go.Proofs.YtebnciehcnedjaaGreatDoor
open Go.Vc
def lastN (ls : List Lev) : Nat := (ls.reverse.dropWhile fun l => decide (l = [])).length
theorem lastN_snoc (ls : List Lev) (l : Lev) : lastN (ls ++ [l]) = if l = [] then lastN ls else ls.length + 1 := by
  unfold lastN
  rw [List.reverse_append, List.reverse_singleton, List.singleton_append, List.dropWhile_cons]
  by_cases h : l = []
  · rw [if_pos (decide_eq_true h), if_pos h]
  · rw [if_neg (by rw [decide_eq_false h]; simp), if_neg h, List.length_cons, List.length_reverse]
theorem lastN_le (ls : List Lev) : lastN ls ≤ ls.length := by
  unfold lastN
  have := (List.dropWhile_sublist (fun l : Lev => decide (l = [])) (l := ls.reverse)).length_le
  rw [List.length_reverse] at this
  exact this
abbrev sizesL (l : Lev) : List Int := l.map fun r => (r.length : Int)
def runsL (s : StD) : List (List Int) := (s.levels.map sizesL).take (lastN s.levels)
theorem sl_take {α : Type} [Gv α] {M : List Nat} {w : World} {p : Option Addr} {l : List α} (h : Sl M w p l) (n : Nat) : Sl M w p (l.take n) := fun j hj => by
  rw [List.length_take] at hj
  obtain ⟨b, o, cs, e, h1, h2, h3⟩ := h j (by omega)
  exact ⟨b, o, cs, e, h1, h2, by rw [List.getElem_take]; exact h3⟩
theorem sl_len {M : List Nat} {w : World} {b o : Nat} {l : Lev} (h : Sl M w (some ⟨b, o, none⟩) l) {j : Nat} (hj : j < l.length) : ∃ p c, w.cell? ⟨b, o + j, none⟩ = some (.slice p l[j].length c) := by
  obtain ⟨b', o', cs, e, _, h3, h4⟩ := h j hj
  cases e
  obtain ⟨p, c, rfl, _⟩ := rep_list.1 h4
  have := h3 0 (by simp)
  rw [show (Gv.ty Run).size = 1 from rfl, Nat.mul_one] at this
  exact ⟨p, c, by simpa using this⟩
theorem buf_p {W w : World} {S : List Own} {Φ : PW} {p : Option Addr} {n cap : Nat} {cs : List Value} {t : TypeId} {size : Nat} (cx : Ctx W w (.buf p n cap cs t size :: S) Φ) (sz : Nat) : subPtr p sz 0 cap = p := by
  obtain ⟨_, h2⟩ := cx.own _ List.mem_cons_self
  rcases h2 with ⟨e, rfl⟩ | ⟨g, cap', cur, e, _⟩
  · cases e
    unfold subPtr
    split <;> rfl
  · cases e
    exact subPtr_zero _ _ _
section
variable {Φ : PW} {q : TO} {s : StD}
set_option maxHeartbeats 2000000 in
theorem Runs_sl [Stable Φ] [hΦ : Has Φ (StR q s)] (hn : s.levels.length ≤ 900000) (hb : ∀ l ∈ s.levels, l.length ≤ 900000) (hr : ∀ l ∈ s.levels, ∀ r ∈ l, r.length ≤ 100000000) :
    GivesSl Φ Tryz.prog F.store_Store_Runs #[.pointer (some ⟨q.sb, 0, none⟩)] (runsL s) id := by
  refine GivesSl.pinned (fun M w h => (hΦ.go M w h).2.2.1) fun g o cs hlp => ?_
  refine gives_sl (Bstore_Store_Runs_run q.sb 0) fun W R => fun w G cx => ?_
  refine ⟨q.lp, s.levels.length, q.lc, (hΦ.go _ _ cx.phi.1).1.2.1 1 (by show 1 < 5; decide), ?_⟩
  clear cx
  obtain ⟨ls, hls⟩ : ∃ ls, s.levels = ls := ⟨_, rfl⟩
  unfold runsL
  rw [hls] at hlp hn hb hr ⊢
  have st0 : Stable (fun M w => Φ M w ∧ Pin g o cs ls M w) := instStableAnd Φ (fun M w => Pin g o cs ls M w)
  have stE : ∀ (ds : List Value) (l : List (List Int)), Stable (fun M w => (Φ M w ∧ Pin g o cs ls M w) ∧ Elems M w ds l) := fun ds l => instStableAnd (fun M w => Φ M w ∧ Pin g o cs ls M w) (fun M w => Elems M w ds l)
  have stI : ∀ (ds : List Value) (l : List (List Int)) (es : List Value) (m : List Int), Stable (fun M w => ((Φ M w ∧ Pin g o cs ls M w) ∧ Elems M w ds l) ∧ Elems M w es m) := fun ds l es m => instStableAnd (fun M w => (Φ M w ∧ Pin g o cs ls M w) ∧ Elems M w ds l) (fun M w => Elems M w es m)
  refine exI_mk (fun p n cap la iI R' Φ' k => ∃ (i : Nat) (ds : List Value), iI = i ∧ (i ≤ ls.length ∧ i ≤ cap) ∧ la = (lastN (ls.take i) : Int) ∧ n = ((ls.take i).map sizesL).length ∧ R' = .buf p n cap ds 53 1 :: R ∧ Φ' = (fun M w => (Φ M w ∧ Pin g o cs ls M w) ∧ Elems M w ds ((ls.take i).map sizesL)) ∧ k = ls.length - i)
    ⟨⟨.buf none 0 0 [] 53 1 :: R, _, _, stE [] ((ls.take 0).map sizesL), fun w G cx => (cx.weak fun M w h => ⟨h, Elems.nil⟩).nobuf 53 1, 0, [], rfl, ⟨Nat.zero_le _, Nat.zero_le _⟩, rfl, rfl, rfl, rfl, rfl⟩, ?_⟩
  rintro p n cap la iI R1 Φ1 k hst1 ⟨i, ds, rfl, ⟨hi, hicap⟩, rfl, rfl, rfl, rfl, rfl⟩
  have hil : ((ls.take i).map sizesL).length = i := by rw [List.length_map, List.length_take]; omega
  refine Br.intro (fun hlt => ?_) (fun hge => ?_)
  · have hlt : i < ls.length := by have := of_decide_eq_true hlt; omega
    have hlp := hlp (by omega)
    have htk : ls.take (i + 1) = ls.take i ++ [ls[i]] := List.take_succ_eq_append_getElem hlt
    have hbl := hb _ (List.getElem_mem hlt)
    have hrl := hr _ (List.getElem_mem hlt)
    refine ⟨⟨by omega, by omega⟩, ptrK_intro g o hlp fun w G cx => ?_⟩
    obtain ⟨p1, c1, e, _, _⟩ := pin_ls cx.phi.1.2 hlt
    have hth := (pin_lsSl cx.phi.1.2 hlt e).there
    refine ⟨p1, ls[i].length, c1, by rw [Int.toNat_natCast]; exact pin_lsAt cx.phi.1.2 hlt e, ?_⟩
    clear cx
    obtain ⟨l, hl⟩ : ∃ l, ls[i] = l := ⟨_, rfl⟩
    have hsl1 : ∀ M w, Pin g o cs ls M w → Sl M w p1 l := fun M w h => by rw [← hl]; exact pin_lsSl h hlt e
    rw [hl] at hth htk hbl hrl ⊢
    refine exI_mk (fun p2 n2 cap2 jI R' Φ' k => ∃ (j : Nat) (es : List Value), jI = j ∧ j ≤ l.length ∧ n2 = (sizesL (l.take j)).length ∧ R' = .buf p2 n2 cap2 es 3 1 :: .buf p ((ls.take i).map sizesL).length cap ds 53 1 :: R ∧ Φ' = (fun M w => ((Φ M w ∧ Pin g o cs ls M w) ∧ Elems M w ds ((ls.take i).map sizesL)) ∧ Elems M w es (sizesL (l.take j))) ∧ k = l.length - j)
      ⟨⟨.buf none 0 0 [] 3 1 :: .buf p ((ls.take i).map sizesL).length cap ds 53 1 :: R, _, _, stI ds ((ls.take i).map sizesL) [] (sizesL (l.take 0)), fun w G cx => (cx.weak fun M w h => ⟨h, Elems.nil⟩).nobuf 3 1, 0, [], rfl, Nat.zero_le _, rfl, rfl, rfl, rfl⟩, ?_⟩
    rintro p2 n2 cap2 jI R2 Φ2 k2 hst2 ⟨j, es, rfl, hj, rfl, rfl, rfl, rfl⟩
    have hjl : (sizesL (l.take j)).length = j := by rw [List.length_map, List.length_take]; omega
    refine Br.intro (fun hlt2 => ?_) (fun hge2 => fun k w G cx => ?_)
    · have hlt2 : j < l.length := by have := of_decide_eq_true hlt2; omega
      obtain ⟨b, ob, hpb⟩ := hth (by omega)
      have hst : sizesL (l.take (j + 1)) = sizesL (l.take j) ++ [(l[j].length : Int)] := by
        unfold sizesL
        rw [List.take_succ_eq_append_getElem hlt2, List.map_append]
        rfl
      have hrj := hrl _ (List.getElem_mem hlt2)
      refine ⟨⟨by omega, by omega⟩, ptrK_intro b ob hpb fun w G cx => ?_⟩
      obtain ⟨p3, c3, hc3⟩ := sl_len (by rw [← hpb]; exact hsl1 _ _ cx.phi.1.1.2) hlt2
      refine ⟨p3, l[j].length, c3, by rw [Int.toNat_natCast]; exact hc3, fun k w G cx => ?_⟩
      obtain ⟨p', cap', w', hrun, _, cx2⟩ := cx.app1 (ts := 53) (ty := 53) (kb := #[false, false]) (bytes := 8) (P := Tryz.prog) (by kernel_rfl) (by omega) rfl rfl (by omega) (by omega)
      have e2 : (sizesL (l.take j)).length + 1 = (sizesL (l.take (j + 1))).length := by rw [hst, List.length_append]; rfl
      rw [e2] at hrun cx2
      have st3 := stI ds ((ls.take i).map sizesL) (es ++ [Value.int .i64 (l[j].length : Int)]) (sizesL (l.take (j + 1)))
      exact ⟨p', _, cap', w', hrun, .buf p' (sizesL (l.take (j + 1))).length cap' (es ++ [Value.int .i64 (l[j].length : Int)]) 3 1 :: .buf p ((ls.take i).map sizesL).length cap ds 53 1 :: R, _, st3, cx2.weak fun M w h => ⟨h.1, by rw [hst]; exact h.2.snoc ⟨rfl, by unfold I64; omega⟩⟩, by unfold I64; omega, _, _, l.length - (j + 1), st3, fun w G cx => cx, ⟨j + 1, _, by omega, by omega, rfl, rfl, rfl, rfl⟩, by omega⟩
    · have hge2 : j = l.length := by have := of_decide_eq_false hge2; omega
      subst hge2
      rw [List.take_length] at cx hjl
      -- the sizes of a level
      have cx1 : Ctx W w (.buf p2 (sizesL l).length cap2 es 3 1 :: .blk k [Value.slice p2 (sizesL l).length cap2] 53 :: .buf p ((ls.take i).map sizesL).length cap ds 53 1 :: (R ++ G)) (fun M w => ((Φ M w ∧ Pin g o cs ls M w) ∧ Elems M w ds ((ls.take i).map sizesL)) ∧ Elems M w es (sizesL l)) := cx.swap
      obtain ⟨c4, hs, _, g3, g4⟩ := Ctx.freeze (α := Int) cx1 cx1.phi.2
      have cx5 := c4.add (Ψ := fun M w => Sl M w p2 (sizesL l)) hs
      obtain ⟨p', cap', w', hrun, _, cx6⟩ := cx5.app1 (ts := 51) (ty := 51) (kb := #[false, false]) (bytes := 24) (P := Tryz.prog) (by kernel_rfl) (by omega) rfl rfl (by omega) (by omega)
      have hst : (ls.take (i + 1)).map sizesL = (ls.take i).map sizesL ++ [sizesL l] := by rw [htk, List.map_append]; rfl
      have e2 : ((ls.take i).map sizesL).length + 1 = ((ls.take (i + 1)).map sizesL).length := by rw [hst, List.length_append]; rfl
      rw [e2] at hrun cx6
      have st4 := stE (ds ++ [Value.slice p2 (sizesL l).length cap2]) ((ls.take (i + 1)).map sizesL)
      have cx7 : Ctx W w' (.buf p' ((ls.take (i + 1)).map sizesL).length cap' (ds ++ [Value.slice p2 (sizesL l).length cap2]) 53 1 :: (R ++ G)) (fun M w => (Φ M w ∧ Pin g o cs ls M w) ∧ Elems M w (ds ++ [Value.slice p2 (sizesL l).length cap2]) ((ls.take (i + 1)).map sizesL)) := cx6.weak fun M w h => ⟨h.1.1.1, by rw [hst]; exact h.1.1.2.snoc (rep_list.2 ⟨p2, cap2, rfl, g3, g4, h.2⟩)⟩
      have hcap' := (cx7.bufLen 0 rfl).2.1
      rw [List.length_map, List.length_take, Nat.min_eq_left (by omega)] at hcap'
      have hla := lastN_snoc (ls.take i) l
      rw [← htk, List.length_take, Nat.min_eq_left hi] at hla
      refine ⟨p', _, cap', w', hrun, .buf p' ((ls.take (i + 1)).map sizesL).length cap' (ds ++ [Value.slice p2 (sizesL l).length cap2]) 53 1 :: R, _, st4, cx7, Br.intro (fun h0 => ?_) (fun h0 => ?_)⟩
      · have h0 : l ≠ [] := fun h => by rw [h] at h0; have := of_decide_eq_true h0; simp at this
        rw [if_neg h0] at hla
        exact ⟨by unfold I64; omega, by unfold I64; omega, _, _, ls.length - (i + 1), st4, fun w G cx => cx, ⟨i + 1, _, by omega, ⟨by omega, hcap'⟩, by omega, rfl, rfl, rfl, rfl⟩, by omega⟩
      · have h0 : l = [] := List.eq_nil_of_length_eq_zero (by have := of_decide_eq_false h0; omega)
        rw [if_pos h0] at hla
        exact ⟨by unfold I64; omega, _, _, ls.length - (i + 1), st4, fun w G cx => cx, ⟨i + 1, _, by omega, ⟨by omega, hcap'⟩, by omega, rfl, rfl, rfl, rfl⟩, by omega⟩
  · have hge : i = ls.length := by have := of_decide_eq_false hge; omega
    subst hge
    rw [List.take_length] at hst1 hil ⊢
    have hle := lastN_le ls
    refine ⟨⟨by omega, ?_⟩, fun w G cx => ?_⟩
    · omega
    · have hp := buf_p (S := R ++ G) cx 1
      obtain ⟨c4, hs, _, g3, g4⟩ := Ctx.freeze (α := List Int) (S := R ++ G) cx cx.phi.2
      rw [hp, Int.toNat_natCast]
      have hll : ((ls.map sizesL).take (lastN ls)).length = lastN ls := by rw [List.length_take, List.length_map]; omega
      refine ⟨p, cap, ?_, by rw [hll]; omega, g4, ((c4.add (Ψ := fun M w => Sl M w p (ls.map sizesL)) hs).weak (Ψ := fun M w => (Φ M w ∧ Pin g o cs ls M w) ∧ Sl M w p ((ls.map sizesL).take (lastN ls))) fun M w h => ⟨h.1.1, sl_take h.2 _⟩).left⟩
      rw [hll]
      rfl
end
end Go.Proofs.YtebnciehcnedjaaGreatDoor
end

section
namespace Go.Proofs.YtebnciehcnedjaaGreatDoor
open Go.Vc
theorem CloneR_use {W w : World} {S : List Own} {Φ : PW} [Stable Φ] {p : Option Addr} {cap : Nat} {l : Lev} (hΦ : ∀ M w, Φ M w → Sl M w p l) (hl : l.length < 100000000) (cx : Ctx W w S Φ) {K : Ending → World → Prop}
    (hK : ∀ (x : LB) w', x.l = l → Ctx W w' (x.own :: S) (fun M w => Φ M w ∧ Elems M w x.ds x.l) → K (.returned x.cell) w') :
    Calls Tryz.prog F.slices_Clone_store_run_store_run #[.slice p l.length cap] w K := by
  have ht := (hΦ _ _ cx.phi).there
  refine (Bslices_Clone_store_run_store_run_run p l.length cap (J := fun u w' => K (.returned u) w') cx ?_).mono fun e w' ⟨v, he, hj⟩ => by rw [he]; exact hj
  refine Br.intro (fun hn => fun w G cx => ?_) (fun _ => fun k w G cx => ?_)
  · have h0 : l = [] := by
      rcases Nat.eq_zero_or_pos l.length with h | h
      · exact List.eq_nil_of_length_eq_zero h
      · obtain ⟨b, o, e⟩ := ht h
        rw [e] at hn
        cases hn
    subst h0
    exact hK nilB w rfl ((cx.left.nobuf 74 1).add (Ψ := fun M w => Elems M w nilB.ds nilB.l) Elems.nil)
  · obtain ⟨p', cap', w', cs, hr, cx2⟩ := Ctx.cloned (α := Run) cx (P := Tryz.prog) (ts := 84) (ty := 84) (kb := #[false, false]) (c2 := cap) (bytes := 24) (by kernel_rfl) run_one hΦ hl (by omega)
    have hst : Stable (fun M w => Φ M w ∧ Elems M w cs l) := instStableAnd Φ (fun M w => Elems M w cs l)
    exact ⟨p', _, cap', w', hr, .buf p' l.length cap' cs 74 1 :: S, _, hst, cx2, fun w G cx => hK ⟨p', cap', cs, l⟩ w rfl cx.left⟩
end Go.Proofs.YtebnciehcnedjaaGreatDoor
end

section
namespace Go.Proofs.YtebnciehcnedjaaGreatDoor
open Go.Vc
set_option maxHeartbeats 4000000 in
theorem Copy_use {W w : World} {S : List Own} {Φ : PW} [Stable Φ] {q : TO} {s : StD} [hΦ : Has Φ (StR q s)] (hC : StC q s) (hz : Szs s.table) (ht : s.table.length < 1000000) (hg : s.log.length < 1000000) (hn : s.levels.length ≤ 900000) (hb : ∀ l ∈ s.levels, l.length ≤ 900000) (cx : Ctx W w S Φ) {K : Ending → World → Prop}
    (hK : ∀ q2 w', StQ q2 s → Ctx W w' (stO q2 s S) (fun M w => Φ M w ∧ stF q2 s M w) → K (.returned (.pointer (some ⟨q2.sb, 0, none⟩))) w') :
    Calls Tryz.prog F.store_Store_Copy #[.pointer (some ⟨q.sb, 0, none⟩)] w K := by
  obtain ⟨g, o, cs, hlp, cx⟩ := cx.pin (hΦ.go _ _ cx.phi).2.2.1
  obtain ⟨Φ0, hΦ0⟩ : ∃ Φ0 : PW, Φ0 = (fun M w => Φ M w ∧ Pin g o cs s.levels M w) := ⟨_, rfl⟩
  rw [← hΦ0] at cx
  have st0 : Stable Φ0 := by rw [hΦ0]; exact instStableAnd Φ (fun M w => Pin g o cs s.levels M w)
  have r0 : ∀ M w, Φ0 M w → StR q s M w := fun M w h => by rw [hΦ0] at h; exact hΦ.go M w h.1
  have rP : ∀ M w, Φ0 M w → Pin g o cs s.levels M w := fun M w h => by rw [hΦ0] at h; exact h.2
  have rΦ : ∀ M w, Φ0 M w → Φ M w := fun M w h => by rw [hΦ0] at h; exact h.1
  refine (Bstore_Store_Copy_run q.sb 0 (J := fun u w' => K (.returned u) w') cx ?_).mono fun e w' ⟨v, he, hj⟩ => by rw [he]; exact hj
  clear cx
  refine ⟨[], Φ0, st0, fun w G cx => Ctx.right (S := S) cx, q.tp, s.table.length, q.tc, fun w G cx => ⟨_, _, _, (r0 _ _ cx.phi).1.2.1 0 (by show 0 < 5; decide), rfl⟩, s.seq, fun w G cx => ⟨_, (r0 _ _ cx.phi).1.2.1 2 (by show 2 < 5; decide), rfl⟩, q.gp, s.log.length, q.gc, fun w G cx => ⟨_, _, _, (r0 _ _ cx.phi).1.2.1 3 (by show 3 < 5; decide), rfl⟩, s.cut, fun w G cx => ⟨_, (r0 _ _ cx.phi).1.2.1 4 (by show 4 < 5; decide), rfl⟩, fun w G cx => ?_⟩
  refine Clone_use (fun M w h => (r0 M w h).2.1) (by omega) cx fun tp tc w cx => ⟨tp, _, tc, rfl, tabO tp tc s.table :: S, Φ0, st0, cx, fun w G cx => Ctx.right (S := tabO tp tc s.table :: S) cx, fun w G cx => ?_⟩
  refine CloneC_use (fun M w h => (r0 M w h).2.2.2) (by omega) cx fun gp gc gs w cx => ?_
  have st1 : Stable (fun M w => Φ0 M w ∧ Elems M w gs s.log) := instStableAnd Φ0 (fun M w => Elems M w gs s.log)
  have stB : ∀ B : List LB, Stable (fun M w => (Φ0 M w ∧ Elems M w gs s.log) ∧ LBE B M w) := fun B => instStableAnd (fun M w => Φ0 M w ∧ Elems M w gs s.log) (LBE B)
  refine ⟨gp, _, gc, rfl, .buf gp s.log.length gc gs 46 3 :: tabO tp tc s.table :: S, _, st1, cx, fun w G cx => (Ctx.right (S := .buf gp s.log.length gc gs 46 3 :: tabO tp tc s.table :: S) cx).weak fun M w h => h.1, fun k w G cx => ⟨q.lp, s.levels.length, q.lc, (r0 _ _ cx.phi.1).1.2.1 1 (by show 1 < 5; decide), ?_⟩⟩
  clear cx
  obtain ⟨ls, hls⟩ : ∃ ls, s.levels = ls := ⟨_, rfl⟩
  rw [hls] at hlp hn hb rP ⊢
  obtain ⟨T, hT⟩ : ∃ T, tabO tp tc s.table :: Own.buf gp s.log.length gc gs 46 3 :: S = T := ⟨_, rfl⟩
  refine exI_mk (fun iI R' Φ' n => ∃ (i : Nat) (lq : Option Addr) (ld : Nat) (B : List LB), iI = i ∧ i ≤ ls.length ∧ B.map LB.l = ls.take i ∧ R' = stA k 77 (.slice tp s.table.length tc) lq ld (.int .i64 s.seq) (.slice gp s.log.length gc) (.int .i64 s.cut) B T ∧ Φ' = (fun M w => (Φ0 M w ∧ Elems M w gs s.log) ∧ LBE B M w) ∧ n = ls.length - i)
    ⟨⟨stA k 77 (.slice tp s.table.length tc) none 0 (.int .i64 s.seq) (.slice gp s.log.length gc) (.int .i64 s.cut) [] T, _, _, stB [], fun w G cx => ?_, 0, none, 0, [], rfl, Nat.zero_le _, rfl, rfl, rfl, rfl⟩, ?_⟩
  · have c1 := (cx.weak (Ψ := fun M w => (Φ0 M w ∧ Elems M w gs s.log) ∧ LBE [] M w) fun M w h => ⟨h, fun x hx => by cases hx⟩).nobuf 84 1
    rw [← hT]
    exact c1.perm ((List.Perm.swap _ _ _).trans (.cons _ (.cons _ (List.Perm.swap _ _ _))))
  rintro iI R1 Φ1 n hst1 ⟨i, lq, ld, B, rfl, hi, hB, rfl, rfl, rfl⟩
  have hBl : B.length = i := by have := congrArg List.length hB; rw [List.length_map, List.length_take] at this; omega
  refine Br.intro (fun hlt => ?_) (fun hge => fun w G cx => ?_)
  rotate_left
  · have hge : i = ls.length := by have := of_decide_eq_false hge; omega
    rw [hge, List.take_length] at hB
    refine hK ⟨k, tp, tc, lq, ld, B, gp, gc, gs⟩ w ⟨by rw [hls]; exact hB, hz⟩ ?_
    have c1 := cx.left
    rw [← hT] at c1
    exact c1.weak fun M w h => ⟨rΦ _ _ h.1.1, h.1.2, h.2⟩
  have hlt : i < ls.length := by have := of_decide_eq_true hlt; omega
  have hlp := hlp (by omega)
  have hbl := hb _ (List.getElem_mem hlt)
  have hsub : ∀ (T G : List Own), ([Own.blk k [.slice tp s.table.length tc, .slice lq B.length ld, .int .i64 s.seq, .slice gp s.log.length gc, .int .i64 s.cut] 77] ++ G).Sublist (Own.blk k [.slice tp s.table.length tc, .slice lq B.length ld, .int .i64 s.seq, .slice gp s.log.length gc, .int .i64 s.cut] 77 :: T ++ G) := fun T G => ((List.nil_sublist T).cons_cons _).append_right G
  refine ⟨⟨by omega, by omega⟩, ptrK_intro g o hlp fun w G cx => ?_⟩
  obtain ⟨p1, c1, e, _, _⟩ := pin_ls (rP _ _ cx.phi.1.1) hlt
  refine ⟨p1, ls[i].length, c1, by rw [Int.toNat_natCast]; exact pin_lsAt (rP _ _ cx.phi.1.1) hlt e, [Own.blk k [.slice tp s.table.length tc, .slice lq B.length ld, .int .i64 s.seq, .slice gp s.log.length gc, .int .i64 s.cut] 77], fun _ _ => True, inferInstance, fun w G cx => (cx.sub (hsub _ G)).weak fun _ _ _ => trivial, lq, B.length, ld, fun w G cx => ⟨_, _, _, cx.get 0 rfl rfl, rfl⟩, fun w G cx => ?_⟩
  refine CloneR_use (fun M w h => pin_lsSl (rP _ _ h.1.1) hlt e) (by omega) cx fun x w hx cx => ?_
  have cx1 : Ctx W w ((Own.blk k [.slice tp s.table.length tc, .slice lq B.length ld, .int .i64 s.seq, .slice gp s.log.length gc, .int .i64 s.cut] 77 :: Own.buf lq B.length ld (B.map LB.cell) 84 1 :: ((B ++ [x]).map LB.own ++ T)) ++ G) (fun M w => (Φ0 M w ∧ Elems M w gs s.log) ∧ LBE (B ++ [x]) M w) := (cx.perm (by
      unfold stA
      simp only [List.map_append, List.map_cons, List.map_nil, List.append_assoc, List.cons_append, List.nil_append]
      exact (List.Perm.swap _ _ _).trans (.cons _ ((List.Perm.swap _ _ _).trans (.cons _ List.perm_middle.symm))))).weak fun M w h => ⟨h.1.1, fun y hy => by
        rcases List.mem_append.1 hy with hy | hy
        · exact h.1.2 y hy
        · rw [List.mem_singleton.1 hy]; exact h.2⟩
  refine ⟨x.p, x.l.length, x.c, rfl, _, _, stB (B ++ [x]), cx1, fun w G cx => (cx.sub (hsub _ G)).weak fun _ _ _ => trivial, fun b => ⟨fun w G cx => (cx.drop1.sub (hsub _ G)).weak fun _ _ _ => trivial, fun w G cx => ?_⟩⟩
  have cx2 : Ctx W w (.blk b [x.cell] 84 :: Own.buf lq B.length ld (B.map LB.cell) 84 1 :: Own.blk k [.slice tp s.table.length tc, .slice lq B.length ld, .int .i64 s.seq, .slice gp s.log.length gc, .int .i64 s.cut] 77 :: ((B ++ [x]).map LB.own ++ T ++ G)) (fun M w => (Φ0 M w ∧ Elems M w gs s.log) ∧ LBE (B ++ [x]) M w) := cx.perm (List.Perm.cons _ (List.Perm.swap _ _ _))
  have stx := stB (B ++ [x])
  obtain ⟨p', cap', w', hr, _, cx3⟩ := cx2.app1 (ts := 75) (ty := 75) (kb := #[false, false]) (bytes := 24) (P := Tryz.prog) (by kernel_rfl) (by omega) rfl rfl (by omega) (by omega)
  refine ⟨p', _, cap', w', hr, Own.blk k [.slice tp s.table.length tc, .slice lq B.length ld, .int .i64 s.seq, .slice gp s.log.length gc, .int .i64 s.cut] 77 :: Own.buf p' (B.length + 1) cap' (B.map LB.cell ++ [x.cell]) 84 1 :: ((B ++ [x]).map LB.own ++ T), _, stx, cx3.swap, fun w G cx => (cx.sub (hsub _ G)).weak fun _ _ _ => trivial, fun w G cx => ⟨cx.can 0 rfl (by show 1 + 1 ≤ 5; omega), fun w' hw' => ?_⟩⟩
  have cx5 := cx.put 0 hw' rfl
  have e1 : (B ++ [x]).length = B.length + 1 := by rw [List.length_append]; rfl
  have e2 : (B ++ [x]).map LB.cell = B.map LB.cell ++ [x.cell] := by rw [List.map_append]; rfl
  refine ⟨stA k 77 (.slice tp s.table.length tc) p' cap' (.int .i64 s.seq) (.slice gp s.log.length gc) (.int .i64 s.cut) (B ++ [x]) T, _, stx, by unfold stA; rw [e1, e2]; exact cx5, by unfold I64; omega, _, _, ls.length - (i + 1), stx, fun w G cx => cx, ⟨i + 1, p', cap', B ++ [x], by omega, by omega, ?_, rfl, rfl, rfl⟩, by omega⟩
  rw [List.map_append, hB, List.map_cons, List.map_nil, hx, List.take_succ_eq_append_getElem hlt]
end Go.Proofs.YtebnciehcnedjaaGreatDoor
end

section
namespace Go.Proofs.YtebnciehcnedjaaGreatDoor
set_option maxRecDepth 100000
open Go.Vc
def Mstore_Store_Trim (sB sO : Nat) (n : Int) (W : World) (R : List Own) (Φ : PW) (J : Value → World → Prop) : Prop :=
  ∀ w0 R1, Ctx W w0 (R ++ R1) Φ → ∃ n2, w0.cell? (Addr.mk sB (sO + 4) none) = some (.int .i64 n2) ∧ ∃ n3, w0.cell? (Addr.mk sB (sO + 2) none) = some (.int .i64 n3) ∧ ∃ R4 Φ5, Stable Φ5 ∧ Wk W R Φ R4 Φ5 ∧ ∀ w8 R9, Ctx W w8 (R ++ R9) Φ → ∃ p10 k11 k12, w8.cell? (Addr.mk sB (sO + 3) none) = some (.slice p10 k11 k12) ∧ ∀ w13 R14, Ctx W w13 (R ++ R14) Φ → ∃ n15, w13.cell? (Addr.mk sB (sO + 4) none) = some (.int .i64 n15) ∧ I64 (min (max n n2) n3 - n15) ∧ (0 ≤ min (max n n2) n3 - n15 ∧ min (max n n2) n3 - n15 ≤ (↑k11 : Int) ∧ k11 ≤ k12) ∧ ∀ w16 R17, Ctx W w16 (R ++ R17) Φ → Calls Tryz.prog F.slices_Clone_api_Change_api_Change #[.slice (subPtr p10 3 (min (max n n2) n3 - n15).toNat k12) (k11 - (min (max n n2) n3 - n15).toNat) (k12 - (min (max n n2) n3 - n15).toNat)] w16 fun e18 w19 => ∃ p20 k21 k22, e18 = .returned (.slice p20 k21 k22) ∧ ∃ R23 Φ24, Stable Φ24 ∧ Ctx W w19 (R23 ++ R17) Φ24 ∧ Wk W
  R23 Φ24 R4 Φ5 ∧ ∀ w27 R28, Ctx W w27 (R23 ++ R28) Φ24 → CanWrite w27 sB (sO + 3) 1 ∧ ∀ (w29 : World), w29 = w27.setCell (Addr.mk sB (sO + 3) none) (Value.slice p20 k21 k22) → ∃ R30 Φ31, Stable Φ31 ∧ Ctx W w29 (R30 ++ R28) Φ31 ∧ Wk W R30 Φ31 R4 Φ5 ∧ ∀ w34 R35, Ctx W w34 (R30 ++ R35) Φ31 → CanWrite w34 sB (sO + 4) 1 ∧ ∀ (w36 : World), w36 = w34.setCell (Addr.mk sB (sO + 4) none) (Value.int IntKind.i64 (min (max n n2) n3)) → ∃ R37 Φ38, Stable Φ38 ∧ Ctx W w36 (R37 ++ R35) Φ38 ∧ Wk W R37 Φ38 R4 Φ5 ∧ ∀ w41 R42, Ctx W w41 (R37 ++ R42) Φ38 → J (Value.tuple #[]) w41
theorem Mstore_Store_Trim_run (sB sO : Nat) (n : Int) {W w : World} {R : List Own} {Φ : PW} [Stable Φ] {J : Value → World → Prop} (c : Ctx W w R Φ) (h : Mstore_Store_Trim sB sO n W R Φ J) : Calls Tryz.prog F.store_Store_Trim #[.pointer (some ⟨sB, sO, none⟩), .int .i64 n] w fun e w' => ∃ v, e = .returned v ∧ J v w' :=
  vcFS_sound (H := { keep := some [0, 1], stages := [(1, [.late [2, 6, 7, 3, 8, 4, 9, 5, 10, 11, 12] [0, 1, 2, 6, 7, 14, 3, 8, 4, 9, 5, 10, 11, 12] [(13, [15, 16]), (17, [18, 19]), (20, [])]])] }) (by rw [show vcFS Tryz.prog W { keep := some [0, 1], stages := [(1, [.late [2, 6, 7, 3, 8, 4, 9, 5, 10, 11, 12] [0, 1, 2, 6, 7, 14, 3, 8, 4, 9, 5, 10, 11, 12] [(13, [15, 16]), (17, [18, 19]), (20, [])]])] } F.store_Store_Trim #[.pointer (some ⟨sB, sO, none⟩), .int .i64 n] R Φ J = Mstore_Store_Trim sB sO n W R Φ J by kernel_rfl]; exact h) c
end Go.Proofs.YtebnciehcnedjaaGreatDoor
end

section
namespace Go.Proofs.YtebnciehcnedjaaGreatDoor
open Go.Vc
set_option maxHeartbeats 2000000 in
theorem trim_use {W w : World} {S : List Own} {Φ : PW} [Stable Φ] {q : TO} {s : StD} (hq : StQ q s) (hL : StL s) (hlg : s.log.length ≤ 1000000) {n : Int}
    (cx : Ctx W w (stO q s S) (fun M w => Φ M w ∧ stF q s M w)) {K : Ending → World → Prop}
    (hK : ∀ q' w', q'.sb = q.sb → StQ q' (trimS s n) → Ctx W w' (stO q' (trimS s n) S) (fun M w => Φ M w ∧ stF q' (trimS s n) M w) → K (.returned (.tuple #[])) w') :
    Calls Tryz.prog F.store_Store_Trim #[.pointer (some ⟨q.sb, 0, none⟩), .int .i64 n] w K := by
  obtain ⟨sb, tp, tc, lp, lc, bs, gp, gc, gs⟩ := q
  obtain ⟨hlev, hzs⟩ := hq
  obtain ⟨t, ls, sq, lg, cut⟩ := s
  simp only at hlev hzs hlg
  have h1 : cut ≤ sq := hL.le
  have h2 : (lg.length : Int) = sq - cut := hL.len
  have perm1 : ∀ (y e : Value) (o : Own) (G : List Own), (stA sb 77 (.slice tp t.length tc) lp lc (.int .i64 sq) y e bs (tabO tp tc t :: o :: S) ++ G).Perm (o :: (stA sb 77 (.slice tp t.length tc) lp lc (.int .i64 sq) y e bs (tabO tp tc t :: S) ++ G)) := fun y e o G => by
    unfold stA
    simp only [List.append_assoc, List.cons_append]
    have h := List.perm_middle (a := o) (l₁ := Own.blk sb [.slice tp t.length tc, .slice lp bs.length lc, .int .i64 sq, y, e] 77 :: Own.buf lp bs.length lc (bs.map LB.cell) 84 1 :: (bs.map LB.own ++ [tabO tp tc t])) (l₂ := S ++ G)
    simp only [List.append_assoc, List.cons_append, List.nil_append] at h
    exact h
  have perm2 : ∀ (y e : Value) (o : Own), (stA sb 77 (.slice tp t.length tc) lp lc (.int .i64 sq) y e bs (tabO tp tc t :: o :: S)).Perm (o :: stA sb 77 (.slice tp t.length tc) lp lc (.int .i64 sq) y e bs (tabO tp tc t :: S)) := fun y e o => by
    have h := perm1 y e o []
    rw [List.append_nil, List.append_nil] at h
    exact h
  have cx1 := cx.perm (perm2 (.slice gp lg.length gc) (.int .i64 cut) (.buf gp lg.length gc gs 46 3))
  obtain ⟨c1, hs, _, g1, g2⟩ := Ctx.freeze (α := ChgD) (l := lg) cx1 cx1.phi.2.1
  have cx2 := (c1.add (Ψ := fun M w => Sl M w gp lg) hs).weak (Ψ := fun M w => (Φ M w ∧ LBE bs M w) ∧ Sl M w gp lg) fun M w h => ⟨⟨h.1.1, h.1.2.2⟩, h.2⟩
  clear cx cx1 c1 hs
  have st2 : Stable (fun M w => (Φ M w ∧ LBE bs M w) ∧ Sl M w gp lg) := instStableAnd (fun M w => Φ M w ∧ LBE bs M w) (fun M w => Sl M w gp lg)
  obtain ⟨c, hc⟩ : ∃ c, cutS ⟨t, ls, sq, lg, cut⟩ n = c := ⟨_, rfl⟩
  have hc' : min (max n cut) sq = c := hc
  have h3 : cut ≤ c ∧ c ≤ sq := by omega
  obtain ⟨d, hd⟩ : ∃ d : Nat, (c - cut).toNat = d := ⟨_, rfl⟩
  have htr : trimS ⟨t, ls, sq, lg, cut⟩ n = ⟨t, ls, sq, lg.drop d, c⟩ := by
    unfold trimS
    rw [hc]
    show (⟨t, ls, sq, lg.drop (c - cut).toNat, c⟩ : StD) = _
    rw [hd]
  rw [htr] at hK
  refine (Mstore_Store_Trim_run sb 0 n (J := fun u w' => K (.returned u) w') cx2 ?_).mono fun e w' ⟨v, he, hj⟩ => by rw [he]; exact hj
  clear cx2
  have any : ∀ {w : World} {R G : List Own} {Ψ : PW} [Stable Ψ], Ctx W w (R ++ G) Ψ → Ctx W w ([] ++ G) (fun _ _ => True) := fun cx => (Ctx.right cx).weak fun _ _ _ => trivial
  refine fun w G cx => ⟨cut, cx.get 0 rfl rfl, sq, cx.get 0 rfl rfl, [], fun _ _ => True, inferInstance, fun w G cx => any cx, fun w G cx => ⟨gp, lg.length, gc, cx.get 0 rfl rfl, fun w G cx => ⟨cut, cx.get 0 rfl rfl, by unfold I64; omega, ⟨by omega, by omega, g1⟩, ?_⟩⟩⟩
  clear cx
  rw [hc', hd]
  have hln : lg.length - d = (lg.drop d).length := by rw [List.length_drop]
  rw [hln]
  refine fun w G cx => CloneC_use (l := lg.drop d) (p := subPtr gp 3 d gc) (fun M w h => addr_sub h.2 d g1) (by rw [List.length_drop]; omega) cx fun p' c' cs w cx => ?_
  have st3 : Stable (fun M w => ((Φ M w ∧ LBE bs M w) ∧ Sl M w gp lg) ∧ Elems M w cs (lg.drop d)) := instStableAnd (fun M w => (Φ M w ∧ LBE bs M w) ∧ Sl M w gp lg) (fun M w => Elems M w cs (lg.drop d))
  obtain ⟨X, hX⟩ : ∃ X : List Own, X = Own.buf p' (lg.drop d).length c' cs 46 3 :: (Own.buf lp bs.length lc (bs.map LB.cell) 84 1 :: (bs.map LB.own ++ (tabO tp tc t :: S))) := ⟨_, rfl⟩
  have cx3 : Ctx W w ((Own.blk sb [.slice tp t.length tc, .slice lp bs.length lc, .int .i64 sq, .slice gp lg.length gc, .int .i64 cut] 77 :: X) ++ G) (fun M w => ((Φ M w ∧ LBE bs M w) ∧ Sl M w gp lg) ∧ Elems M w cs (lg.drop d)) := by rw [hX]; exact cx.swap
  refine ⟨p', _, c', rfl, _, _, st3, cx3, fun w G cx => any cx, fun w G cx => ⟨cx.can 0 rfl (by show 0 + 3 + 1 ≤ 5; omega), fun w' hw' => ⟨Own.blk sb [.slice tp t.length tc, .slice lp bs.length lc, .int .i64 sq, .slice p' (lg.drop d).length c', .int .i64 cut] 77 :: X, _, st3, cx.put 0 hw' rfl, fun w G cx => any cx, fun w G cx => ⟨cx.can 0 rfl (by show 0 + 4 + 1 ≤ 5; omega), fun w' hw' => ⟨Own.blk sb [.slice tp t.length tc, .slice lp bs.length lc, .int .i64 sq, .slice p' (lg.drop d).length c', .int .i64 c] 77 :: X, _, st3, cx.put 0 hw' rfl, fun w G cx => any cx, fun w G cx => ?_⟩⟩⟩⟩⟩
  rw [hX] at cx
  refine hK ⟨sb, tp, tc, lp, lc, bs, p', c', cs⟩ w rfl ⟨hlev, hzs⟩ ?_
  have cx4 := cx.left.swap
  exact (cx4.perm (perm2 (.slice p' (lg.drop d).length c') (.int .i64 c) _).symm).weak fun M w h => ⟨h.1.1.1, h.2, h.1.1.2⟩
end Go.Proofs.YtebnciehcnedjaaGreatDoor
end

section
namespace Go.Proofs
open Go.Shelf
def Tryz.lays169_ren : Go.Shelf.Ren := ⟨fun | 169 => 59 | n => n, fun | 70 => 86 | 9 => 9 | 0 => 0 | 72 => 89 | 37 => 87 | 127 => 115 | 3 => 3 | 5 => 5 | n => n, fun | n => n⟩
theorem Tryz.lays169 : Go.Proofs.Lays.n169 Tryz.prog Tryz.lays169_ren := {
  mixed := by kernel_rfl
  f169 := Tryz.func59.trans (congrArg some (by kernel_rfl))
  t0 := Tryz.underlying0
  a0 := Tryz.isAgg0
  z0 := Tryz.sizeOf0
  v0 := Tryz.zeroValue0
  t3 := Tryz.underlying3
  a3 := Tryz.isAgg3
  z3 := Tryz.sizeOf3
  v3 := Tryz.zeroValue3
  t9 := Tryz.underlying9
  a9 := Tryz.isAgg9
  z9 := Tryz.sizeOf9
  v9 := Tryz.zeroValue9
  t37 := Tryz.underlying87
  a37 := Tryz.isAgg87
  z37 := Tryz.sizeOf87
  v37 := Tryz.zeroValue87
  t70 := Tryz.underlying86
  a70 := Tryz.isAgg86
  z70 := Tryz.sizeOf86
  v70 := Tryz.zeroValue86
  t72 := Tryz.underlying89
  a72 := Tryz.isAgg89
  z72 := Tryz.sizeOf89
  v72 := Tryz.zeroValue89
  t127 := Tryz.underlying115
  a127 := Tryz.isAgg115
  z127 := Tryz.sizeOf115
  v127 := Tryz.zeroValue115 }
theorem Tryz.Builder_Extra_169 : Builder.Extra Tryz.prog Tryz.lays169_ren := {
  sizeBuilder := by kernel_rfl
  liesBuilder := by kernel_rfl
  t5 := Tryz.underlying5
  a5 := Tryz.isAgg5
  z5 := Tryz.sizeOf5
  v5 := Tryz.zeroValue5
  infoByte := by kernel_rfl
  cellsByte := by kernel_rfl
  sizeByte := by kernel_rfl
  neB5 := by decide }
def Tryz.lays137_ren : Go.Shelf.Ren := ⟨fun | 137 => 106 | 217 => 119 | 266 => 128 | n => n, fun | 9 => 9 | 5 => 5 | 3 => 3 | n => n, fun | n => n⟩
theorem Tryz.lays137 : Go.Proofs.Lays.n137 Tryz.prog Tryz.lays137_ren := {
  mixed := by kernel_rfl
  f137 := Tryz.func106.trans (congrArg some (by kernel_rfl))
  f217 := Tryz.func119.trans (congrArg some (by kernel_rfl))
  f266 := Tryz.func128.trans (congrArg some (by kernel_rfl))
  t3 := Tryz.underlying3
  a3 := Tryz.isAgg3
  z3 := Tryz.sizeOf3
  v3 := Tryz.zeroValue3
  t5 := Tryz.underlying5
  a5 := Tryz.isAgg5
  z5 := Tryz.sizeOf5
  v5 := Tryz.zeroValue5
  t9 := Tryz.underlying9
  a9 := Tryz.isAgg9
  z9 := Tryz.sizeOf9
  v9 := Tryz.zeroValue9 }
def Tryz.lays103_ren : Go.Shelf.Ren := ⟨fun | 103 => 108 | 210 => 122 | 206 => 102 | n => n, fun | 9 => 9 | 4 => 4 | 24 => 130 | 3 => 3 | n => n, fun | n => n⟩
theorem Tryz.lays103 : Go.Proofs.Lays.n103 Tryz.prog Tryz.lays103_ren := {
  mixed := by kernel_rfl
  f103 := Tryz.func108.trans (congrArg some (by kernel_rfl))
  f206 := Tryz.func102.trans (congrArg some (by kernel_rfl))
  f210 := Tryz.func122.trans (congrArg some (by kernel_rfl))
  t3 := Tryz.underlying3
  a3 := Tryz.isAgg3
  z3 := Tryz.sizeOf3
  v3 := Tryz.zeroValue3
  t4 := Tryz.underlying4
  a4 := Tryz.isAgg4
  z4 := Tryz.sizeOf4
  v4 := Tryz.zeroValue4
  t9 := Tryz.underlying9
  a9 := Tryz.isAgg9
  z9 := Tryz.sizeOf9
  v9 := Tryz.zeroValue9
  t24 := Tryz.underlying130
  a24 := Tryz.isAgg130
  z24 := Tryz.sizeOf130
  v24 := Tryz.zeroValue130 }
def Tryz.laysM171_ren : Go.Shelf.Ren := ⟨fun | 171 => 87 | 243 => 113 | 246 => 124 | 283 => 135 | 284 => 136 | 285 => 137 | 286 => 138 | 129 => 144 | 317 => 143 | 318 => 145 | 319 => 146 | 320 => 147 | 337 => 151 | 338 => 152 | n => n, fun | 3 => 3 | 9 => 9 | 2 => 2 | 4 => 4 | 171 => 153 | 0 => 0 | 53 => 154 | 37 => 87 | 5 => 5 | 173 => 157 | 212 => 166 | 51 => 167 | 20 => 20 | 213 => 168 | 46 => 136 | 232 => 176 | 233 => 177 | n => n, fun | 17 => 3 | 18 => 4 | 19 => 5 | n => n⟩
theorem Tryz.laysM171 : Go.Proofs.LaysM.n171 Tryz.prog Tryz.laysM171_ren := {
  mixed := by kernel_rfl
  f129 := Tryz.func144.trans (congrArg some (by kernel_rfl))
  f171 := Tryz.func87.trans (congrArg some (by kernel_rfl))
  f243 := Tryz.func113.trans (congrArg some (by kernel_rfl))
  f246 := Tryz.func124.trans (congrArg some (by kernel_rfl))
  f283 := Tryz.func135.trans (congrArg some (by kernel_rfl))
  f284 := Tryz.func136.trans (congrArg some (by kernel_rfl))
  f285 := Tryz.func137.trans (congrArg some (by kernel_rfl))
  f286 := Tryz.func138.trans (congrArg some (by kernel_rfl))
  f317 := Tryz.func143.trans (congrArg some (by kernel_rfl))
  f318 := Tryz.func145.trans (congrArg some (by kernel_rfl))
  f319 := Tryz.func146.trans (congrArg some (by kernel_rfl))
  f320 := Tryz.func147.trans (congrArg some (by kernel_rfl))
  f337 := Tryz.func151.trans (congrArg some (by kernel_rfl))
  f338 := Tryz.func152.trans (congrArg some (by kernel_rfl))
  t0 := Tryz.underlying0
  a0 := Tryz.isAgg0
  z0 := Tryz.sizeOf0
  v0 := Tryz.zeroValue0
  t2 := Tryz.underlying2
  a2 := Tryz.isAgg2
  z2 := Tryz.sizeOf2
  v2 := Tryz.zeroValue2
  t3 := Tryz.underlying3
  a3 := Tryz.isAgg3
  z3 := Tryz.sizeOf3
  v3 := Tryz.zeroValue3
  t4 := Tryz.underlying4
  a4 := Tryz.isAgg4
  z4 := Tryz.sizeOf4
  v4 := Tryz.zeroValue4
  t5 := Tryz.underlying5
  a5 := Tryz.isAgg5
  z5 := Tryz.sizeOf5
  v5 := Tryz.zeroValue5
  t9 := Tryz.underlying9
  a9 := Tryz.isAgg9
  z9 := Tryz.sizeOf9
  v9 := Tryz.zeroValue9
  t20 := Tryz.underlying20
  a20 := Tryz.isAgg20
  z20 := Tryz.sizeOf20
  v20 := Tryz.zeroValue20
  t37 := Tryz.underlying87
  a37 := Tryz.isAgg87
  z37 := Tryz.sizeOf87
  v37 := Tryz.zeroValue87
  t46 := Tryz.underlying136
  a46 := Tryz.isAgg136
  z46 := Tryz.sizeOf136
  v46 := Tryz.zeroValue136
  t51 := Tryz.underlying167
  a51 := Tryz.isAgg167
  z51 := Tryz.sizeOf167
  v51 := Tryz.zeroValue167
  t53 := Tryz.underlying154
  a53 := Tryz.isAgg154
  z53 := Tryz.sizeOf154
  v53 := Tryz.zeroValue154
  t171 := Tryz.underlying153
  a171 := Tryz.isAgg153
  z171 := Tryz.sizeOf153
  v171 := Tryz.zeroValue153
  t173 := Tryz.underlying157
  a173 := Tryz.isAgg157
  z173 := Tryz.sizeOf157
  v173 := Tryz.zeroValue157
  t212 := Tryz.underlying166
  a212 := Tryz.isAgg166
  z212 := Tryz.sizeOf166
  v212 := Tryz.zeroValue166
  t213 := Tryz.underlying168
  a213 := Tryz.isAgg168
  z213 := Tryz.sizeOf168
  t232 := Tryz.underlying176
  a232 := Tryz.isAgg176
  z232 := Tryz.sizeOf176
  v232 := Tryz.zeroValue176
  t233 := Tryz.underlying177
  a233 := Tryz.isAgg177
  z233 := Tryz.sizeOf177
  v233 := Tryz.zeroValue177
  g17 := by kernel_rfl
  g18 := by kernel_rfl
  g19 := by kernel_rfl
  i0 := by kernel_rfl
  i2 := by kernel_rfl
  i3 := by kernel_rfl
  i4 := by kernel_rfl
  i5 := by kernel_rfl
  i9 := by kernel_rfl
  i20 := by kernel_rfl
  i37 := by kernel_rfl
  i46 := by kernel_rfl
  i51 := by kernel_rfl
  i53 := by kernel_rfl
  i171 := by kernel_rfl
  i173 := by kernel_rfl
  i212 := by kernel_rfl
  i232 := by kernel_rfl
  i233 := by kernel_rfl
  m17 := by kernel_rfl
  m18 := by kernel_rfl
  m19 := by kernel_rfl }
def Tryz.lays171_ren : Go.Shelf.Ren := ⟨fun | 171 => 87 | 243 => 113 | 246 => 124 | 283 => 135 | 284 => 136 | 285 => 137 | 286 => 138 | 129 => 144 | 317 => 143 | 318 => 145 | 319 => 146 | 320 => 147 | 337 => 151 | 338 => 152 | n => n, fun | 3 => 3 | 9 => 9 | 2 => 2 | 4 => 4 | 171 => 153 | 0 => 0 | 53 => 154 | 37 => 87 | 5 => 5 | 173 => 157 | 212 => 166 | 51 => 167 | 20 => 20 | 213 => 168 | 46 => 136 | 232 => 176 | 233 => 177 | n => n, fun | 17 => 3 | 18 => 4 | 19 => 5 | n => n⟩
theorem Tryz.lays171 : Go.Proofs.Lays.n171 Tryz.prog Tryz.lays171_ren := {
  mixed := by kernel_rfl
  f129 := Tryz.func144.trans (congrArg some (by kernel_rfl))
  f171 := Tryz.func87.trans (congrArg some (by kernel_rfl))
  f243 := Tryz.func113.trans (congrArg some (by kernel_rfl))
  f246 := Tryz.func124.trans (congrArg some (by kernel_rfl))
  f283 := Tryz.func135.trans (congrArg some (by kernel_rfl))
  f284 := Tryz.func136.trans (congrArg some (by kernel_rfl))
  f285 := Tryz.func137.trans (congrArg some (by kernel_rfl))
  f286 := Tryz.func138.trans (congrArg some (by kernel_rfl))
  f317 := Tryz.func143.trans (congrArg some (by kernel_rfl))
  f318 := Tryz.func145.trans (congrArg some (by kernel_rfl))
  f319 := Tryz.func146.trans (congrArg some (by kernel_rfl))
  f320 := Tryz.func147.trans (congrArg some (by kernel_rfl))
  f337 := Tryz.func151.trans (congrArg some (by kernel_rfl))
  f338 := Tryz.func152.trans (congrArg some (by kernel_rfl))
  t0 := Tryz.underlying0
  a0 := Tryz.isAgg0
  z0 := Tryz.sizeOf0
  v0 := Tryz.zeroValue0
  t2 := Tryz.underlying2
  a2 := Tryz.isAgg2
  z2 := Tryz.sizeOf2
  v2 := Tryz.zeroValue2
  t3 := Tryz.underlying3
  a3 := Tryz.isAgg3
  z3 := Tryz.sizeOf3
  v3 := Tryz.zeroValue3
  t4 := Tryz.underlying4
  a4 := Tryz.isAgg4
  z4 := Tryz.sizeOf4
  v4 := Tryz.zeroValue4
  t5 := Tryz.underlying5
  a5 := Tryz.isAgg5
  z5 := Tryz.sizeOf5
  v5 := Tryz.zeroValue5
  t9 := Tryz.underlying9
  a9 := Tryz.isAgg9
  z9 := Tryz.sizeOf9
  v9 := Tryz.zeroValue9
  t20 := Tryz.underlying20
  a20 := Tryz.isAgg20
  z20 := Tryz.sizeOf20
  v20 := Tryz.zeroValue20
  t37 := Tryz.underlying87
  a37 := Tryz.isAgg87
  z37 := Tryz.sizeOf87
  v37 := Tryz.zeroValue87
  t46 := Tryz.underlying136
  a46 := Tryz.isAgg136
  z46 := Tryz.sizeOf136
  v46 := Tryz.zeroValue136
  t51 := Tryz.underlying167
  a51 := Tryz.isAgg167
  z51 := Tryz.sizeOf167
  v51 := Tryz.zeroValue167
  t53 := Tryz.underlying154
  a53 := Tryz.isAgg154
  z53 := Tryz.sizeOf154
  v53 := Tryz.zeroValue154
  t171 := Tryz.underlying153
  a171 := Tryz.isAgg153
  z171 := Tryz.sizeOf153
  v171 := Tryz.zeroValue153
  t173 := Tryz.underlying157
  a173 := Tryz.isAgg157
  z173 := Tryz.sizeOf157
  v173 := Tryz.zeroValue157
  t212 := Tryz.underlying166
  a212 := Tryz.isAgg166
  z212 := Tryz.sizeOf166
  v212 := Tryz.zeroValue166
  t213 := Tryz.underlying168
  a213 := Tryz.isAgg168
  z213 := Tryz.sizeOf168
  t232 := Tryz.underlying176
  a232 := Tryz.isAgg176
  z232 := Tryz.sizeOf176
  v232 := Tryz.zeroValue176
  t233 := Tryz.underlying177
  a233 := Tryz.isAgg177
  z233 := Tryz.sizeOf177
  v233 := Tryz.zeroValue177
  g17 := by kernel_rfl
  g18 := by kernel_rfl
  g19 := by kernel_rfl }
def Tryz.laysC172_ren : Go.Shelf.Ren := ⟨fun | 172 => 107 | 244 => 120 | 245 => 121 | 247 => 129 | 279 => 130 | 280 => 131 | 281 => 132 | 282 => 133 | 287 => 140 | 316 => 141 | 171 => 87 | 205 => 142 | 321 => 149 | 322 => 150 | 243 => 113 | 246 => 124 | 283 => 135 | 284 => 136 | 285 => 137 | 286 => 138 | 129 => 144 | 317 => 143 | 318 => 145 | 319 => 146 | 320 => 147 | 337 => 151 | 338 => 152 | n => n, fun | 9 => 9 | 3 => 3 | 75 => 91 | 76 => 92 | 4 => 4 | 5 => 5 | 167 => 146 | 37 => 87 | 0 => 0 | 85 => 147 | 2 => 2 | 168 => 149 | 53 => 154 | 175 => 159 | 46 => 136 | 210 => 162 | 127 => 115 | 145 => 174 | 143 => 172 | 21 => 21 | 171 => 153 | 173 => 157 | 212 => 166 | 51 => 167 | 20 => 20 | 213 => 168 | 232 => 176 | 233 => 177 | 80 => 37 | n => n, fun | 15 => 1 | 16 => 2 | 17 => 3 | 18 => 4 | 19 => 5 | n => n⟩
theorem Tryz.laysC172 : Go.Proofs.LaysC.n172 Tryz.prog Tryz.laysC172_ren := {
  mixed := by kernel_rfl
  f129 := Tryz.func144.trans (congrArg some (by kernel_rfl))
  f171 := Tryz.func87.trans (congrArg some (by kernel_rfl))
  f172 := Tryz.func107.trans (congrArg some (by kernel_rfl))
  f205 := Tryz.func142.trans (congrArg some (by kernel_rfl))
  f243 := Tryz.func113.trans (congrArg some (by kernel_rfl))
  f244 := Tryz.func120.trans (congrArg some (by kernel_rfl))
  f245 := Tryz.func121.trans (congrArg some (by kernel_rfl))
  f246 := Tryz.func124.trans (congrArg some (by kernel_rfl))
  f247 := Tryz.func129.trans (congrArg some (by kernel_rfl))
  f279 := Tryz.func130.trans (congrArg some (by kernel_rfl))
  f280 := Tryz.func131.trans (congrArg some (by kernel_rfl))
  f281 := Tryz.func132.trans (congrArg some (by kernel_rfl))
  f282 := Tryz.func133.trans (congrArg some (by kernel_rfl))
  f283 := Tryz.func135.trans (congrArg some (by kernel_rfl))
  f284 := Tryz.func136.trans (congrArg some (by kernel_rfl))
  f285 := Tryz.func137.trans (congrArg some (by kernel_rfl))
  f286 := Tryz.func138.trans (congrArg some (by kernel_rfl))
  f287 := Tryz.func140.trans (congrArg some (by kernel_rfl))
  f316 := Tryz.func141.trans (congrArg some (by kernel_rfl))
  f317 := Tryz.func143.trans (congrArg some (by kernel_rfl))
  f318 := Tryz.func145.trans (congrArg some (by kernel_rfl))
  f319 := Tryz.func146.trans (congrArg some (by kernel_rfl))
  f320 := Tryz.func147.trans (congrArg some (by kernel_rfl))
  f321 := Tryz.func149.trans (congrArg some (by kernel_rfl))
  f322 := Tryz.func150.trans (congrArg some (by kernel_rfl))
  f337 := Tryz.func151.trans (congrArg some (by kernel_rfl))
  f338 := Tryz.func152.trans (congrArg some (by kernel_rfl))
  t0 := Tryz.underlying0
  a0 := Tryz.isAgg0
  z0 := Tryz.sizeOf0
  v0 := Tryz.zeroValue0
  t2 := Tryz.underlying2
  a2 := Tryz.isAgg2
  z2 := Tryz.sizeOf2
  v2 := Tryz.zeroValue2
  t3 := Tryz.underlying3
  a3 := Tryz.isAgg3
  z3 := Tryz.sizeOf3
  v3 := Tryz.zeroValue3
  t4 := Tryz.underlying4
  a4 := Tryz.isAgg4
  z4 := Tryz.sizeOf4
  v4 := Tryz.zeroValue4
  t5 := Tryz.underlying5
  a5 := Tryz.isAgg5
  z5 := Tryz.sizeOf5
  v5 := Tryz.zeroValue5
  t9 := Tryz.underlying9
  a9 := Tryz.isAgg9
  z9 := Tryz.sizeOf9
  v9 := Tryz.zeroValue9
  t20 := Tryz.underlying20
  a20 := Tryz.isAgg20
  z20 := Tryz.sizeOf20
  v20 := Tryz.zeroValue20
  t21 := Tryz.underlying21
  a21 := Tryz.isAgg21
  z21 := Tryz.sizeOf21
  v21 := Tryz.zeroValue21
  t37 := Tryz.underlying87
  a37 := Tryz.isAgg87
  z37 := Tryz.sizeOf87
  v37 := Tryz.zeroValue87
  t46 := Tryz.underlying136
  a46 := Tryz.isAgg136
  z46 := Tryz.sizeOf136
  v46 := Tryz.zeroValue136
  t51 := Tryz.underlying167
  a51 := Tryz.isAgg167
  z51 := Tryz.sizeOf167
  v51 := Tryz.zeroValue167
  t53 := Tryz.underlying154
  a53 := Tryz.isAgg154
  z53 := Tryz.sizeOf154
  v53 := Tryz.zeroValue154
  t75 := Tryz.underlying91
  a75 := Tryz.isAgg91
  z75 := Tryz.sizeOf91
  v75 := Tryz.zeroValue91
  t76 := Tryz.underlying92
  a76 := Tryz.isAgg92
  z76 := Tryz.sizeOf92
  v76 := Tryz.zeroValue92
  t85 := Tryz.underlying147
  a85 := Tryz.isAgg147
  z85 := Tryz.sizeOf147
  v85 := Tryz.zeroValue147
  t127 := Tryz.underlying115
  a127 := Tryz.isAgg115
  z127 := Tryz.sizeOf115
  v127 := Tryz.zeroValue115
  t143 := Tryz.underlying172
  a143 := Tryz.isAgg172
  z143 := Tryz.sizeOf172
  v143 := Tryz.zeroValue172
  t145 := Tryz.underlying174
  a145 := Tryz.isAgg174
  z145 := Tryz.sizeOf174
  v145 := Tryz.zeroValue174
  t167 := Tryz.underlying146
  a167 := Tryz.isAgg146
  z167 := Tryz.sizeOf146
  v167 := Tryz.zeroValue146
  t168 := Tryz.underlying149
  a168 := Tryz.isAgg149
  z168 := Tryz.sizeOf149
  v168 := Tryz.zeroValue149
  t171 := Tryz.underlying153
  a171 := Tryz.isAgg153
  z171 := Tryz.sizeOf153
  v171 := Tryz.zeroValue153
  t173 := Tryz.underlying157
  a173 := Tryz.isAgg157
  z173 := Tryz.sizeOf157
  v173 := Tryz.zeroValue157
  t175 := Tryz.underlying159
  a175 := Tryz.isAgg159
  z175 := Tryz.sizeOf159
  v175 := Tryz.zeroValue159
  t210 := Tryz.underlying162
  a210 := Tryz.isAgg162
  z210 := Tryz.sizeOf162
  v210 := Tryz.zeroValue162
  t212 := Tryz.underlying166
  a212 := Tryz.isAgg166
  z212 := Tryz.sizeOf166
  v212 := Tryz.zeroValue166
  t213 := Tryz.underlying168
  a213 := Tryz.isAgg168
  z213 := Tryz.sizeOf168
  t232 := Tryz.underlying176
  a232 := Tryz.isAgg176
  z232 := Tryz.sizeOf176
  v232 := Tryz.zeroValue176
  t233 := Tryz.underlying177
  a233 := Tryz.isAgg177
  z233 := Tryz.sizeOf177
  v233 := Tryz.zeroValue177
  g15 := by kernel_rfl
  g16 := by kernel_rfl
  g17 := by kernel_rfl
  g18 := by kernel_rfl
  g19 := by kernel_rfl
  t80 := Tryz.underlying37
  a80 := Tryz.isAgg37
  z80 := Tryz.sizeOf37
  v80 := Tryz.zeroValue37
  i0 := by kernel_rfl
  i2 := by kernel_rfl
  i3 := by kernel_rfl
  i4 := by kernel_rfl
  i5 := by kernel_rfl
  i9 := by kernel_rfl
  i20 := by kernel_rfl
  i21 := by kernel_rfl
  i37 := by kernel_rfl
  i46 := by kernel_rfl
  i51 := by kernel_rfl
  i53 := by kernel_rfl
  i75 := by kernel_rfl
  i76 := by kernel_rfl
  i80 := by kernel_rfl
  i85 := by kernel_rfl
  i127 := by kernel_rfl
  i143 := by kernel_rfl
  i145 := by kernel_rfl
  i167 := by kernel_rfl
  i168 := by kernel_rfl
  i171 := by kernel_rfl
  i173 := by kernel_rfl
  i175 := by kernel_rfl
  i210 := by kernel_rfl
  i212 := by kernel_rfl
  i232 := by kernel_rfl
  i233 := by kernel_rfl
  m15 := by kernel_rfl
  m16 := by kernel_rfl
  m17 := by kernel_rfl
  m18 := by kernel_rfl
  m19 := by kernel_rfl
  c0 := by kernel_rfl
  c2 := by kernel_rfl
  c3 := by kernel_rfl
  c4 := by kernel_rfl
  c5 := by kernel_rfl
  c9 := by kernel_rfl
  c20 := by kernel_rfl
  c21 := by kernel_rfl
  c37 := by kernel_rfl
  c46 := by kernel_rfl
  c51 := by kernel_rfl
  c53 := by kernel_rfl
  c75 := by kernel_rfl
  c76 := by kernel_rfl
  c80 := by kernel_rfl
  c85 := by kernel_rfl
  c127 := by kernel_rfl
  c143 := by kernel_rfl
  c145 := by kernel_rfl
  c167 := by kernel_rfl
  c168 := by kernel_rfl
  c171 := by kernel_rfl
  c173 := by kernel_rfl
  c175 := by kernel_rfl
  c210 := by kernel_rfl
  c212 := by kernel_rfl
  c213 := by kernel_rfl
  c232 := by kernel_rfl
  c233 := by kernel_rfl }
end Go.Proofs
end

section
namespace Go.Proofs.YtebnciehcnedjaaGreatDoor
set_option maxRecDepth 100000
open Go.Vc
def Bwire_Open (s : ByteArray) (W : World) (R : List Own) (Φ : PW) (J : Value → World → Prop) : Prop :=
  ∀ (k0 : Nat) (w1 : World) (R2 : List Own), Ctx W w1 (Own.blk k0 [.string s, .bool false] 107 :: R ++ R2) Φ → J (.pointer (some (Addr.mk k0 0 none))) w1
theorem Bwire_Open_run (s : ByteArray) {W w : World} {R : List Own} {Φ : PW} [Stable Φ] {J : Value → World → Prop} (c : Ctx W w R Φ) (h : Bwire_Open s W R Φ J) : Calls Tryz.prog F.wire_Open #[.string s] w fun e w' => ∃ v, e = .returned v ∧ J v w' :=
  vcFS_sound (H := { keep := some [0, 2] }) (by rw [show vcFS Tryz.prog W { keep := some [0, 2] } F.wire_Open #[.string s] R Φ J = Bwire_Open s W R Φ J by kernel_rfl]; exact h) c
def Bwire_Reader_Int (rB rO : Nat) (W : World) (R : List Own) (Φ : PW) (J : Value → World → Prop) : Prop :=
  ∀ w0 R1, Ctx W w0 (R ++ R1) Φ → Calls Tryz.prog F.wire_Reader_number #[.pointer (some (Addr.mk rB rO none)), .int IntKind.u8 59, .int .i64 (-9223372036854775808)] w0 fun e2 w3 => ∃ n4, e2 = .returned (.int .i64 n4) ∧ ∃ R5 Φ6, Stable Φ6 ∧ Ctx W w3 (R5 ++ R1) Φ6 ∧ ∀ w7 R8, Ctx W w7 (R5 ++ R8) Φ6 → J (.int .i64 n4) w7
theorem Bwire_Reader_Int_run (rB rO : Nat) {W w : World} {R : List Own} {Φ : PW} [Stable Φ] {J : Value → World → Prop} (c : Ctx W w R Φ) (h : Bwire_Reader_Int rB rO W R Φ J) : Calls Tryz.prog F.wire_Reader_Int #[.pointer (some ⟨rB, rO, none⟩)] w fun e w' => ∃ v, e = .returned v ∧ J v w' :=
  vcFS_sound (H := { keep := some [0, 2] }) (by rw [show vcFS Tryz.prog W { keep := some [0, 2] } F.wire_Reader_Int #[.pointer (some ⟨rB, rO, none⟩)] R Φ J = Bwire_Reader_Int rB rO W R Φ J by kernel_rfl]; exact h) c
def Bwire_Reader_Num (rB rO : Nat) (W : World) (R : List Own) (Φ : PW) (J : Value → World → Prop) : Prop :=
  ∀ w0 R1, Ctx W w0 (R ++ R1) Φ → Calls Tryz.prog F.wire_Reader_number #[.pointer (some (Addr.mk rB rO none)), .int IntKind.u8 59, .int .i64 0] w0 fun e2 w3 => ∃ n4, e2 = .returned (.int .i64 n4) ∧ ∃ R5 Φ6, Stable Φ6 ∧ Ctx W w3 (R5 ++ R1) Φ6 ∧ ∀ w7 R8, Ctx W w7 (R5 ++ R8) Φ6 → J (.int .i64 n4) w7
theorem Bwire_Reader_Num_run (rB rO : Nat) {W w : World} {R : List Own} {Φ : PW} [Stable Φ] {J : Value → World → Prop} (c : Ctx W w R Φ) (h : Bwire_Reader_Num rB rO W R Φ J) : Calls Tryz.prog F.wire_Reader_Num #[.pointer (some ⟨rB, rO, none⟩)] w fun e w' => ∃ v, e = .returned v ∧ J v w' :=
  vcFS_sound (H := { keep := some [0, 2] }) (by rw [show vcFS Tryz.prog W { keep := some [0, 2] } F.wire_Reader_Num #[.pointer (some ⟨rB, rO, none⟩)] R Φ J = Bwire_Reader_Num rB rO W R Φ J by kernel_rfl]; exact h) c
def Bwire_Reader_Text (rB rO : Nat) (W : World) (R : List Own) (Φ : PW) (J : Value → World → Prop) : Prop :=
  ∀ w0 R1, Ctx W w0 (R ++ R1) Φ → Calls Tryz.prog F.wire_Reader_number #[.pointer (some (Addr.mk rB rO none)), .int IntKind.u8 58, .int .i64 0] w0 fun e2 w3 => ∃ n4, e2 = .returned (.int .i64 n4) ∧ ∃ R5 Φ6, Stable Φ6 ∧ Ctx W w3 (R5 ++ R1) Φ6 ∧ ∀ w7 R8, Ctx W w7 (R5 ++ R8) Φ6 → ∃ s9, w7.cell? (Addr.mk rB rO none) = some (.string s9) ∧ Br (decide ((↑s9.size : Int) < n4)) (∀ w10 R11, Ctx W w10 (R5 ++ R11) Φ6 → Calls Tryz.prog F.wire_Reader_fail #[.pointer (some (Addr.mk rB rO none))] w10 fun e12 w13 => e12 = .returned (Value.tuple #[]) ∧ ∃ R14 Φ15, Stable Φ15 ∧ Ctx W w13 (R14 ++ R11) Φ15 ∧ ∀ w16 R17, Ctx W w16 (R14 ++ R17) Φ15 → J (.string (ByteArray.mk #[])) w16) (∀ w18 R19, Ctx W w18 (R5 ++ R19) Φ6 → ∃ s20, w18.cell? (Addr.mk rB rO none) = some (.string s20) ∧ (0 ≤ n4 ∧ n4 ≤ (↑s20.size : Int)) ∧ ∀ w21 R22, Ctx W w21 (R5 ++ R22) Φ6 → ∃ s23, w21.cell? (Addr.mk rB rO none) = some (.string
  s23) ∧ (0 ≤ n4 ∧ n4 ≤ (↑s23.size : Int) ∧ s23.size ≤ s23.size) ∧ ∀ w24 R25, Ctx W w24 (R5 ++ R25) Φ6 → CanWrite w24 rB rO 1 ∧ ∀ (w26 : World), w26 = w24.setCell (Addr.mk rB rO none) (Value.string (s23.extract n4.toNat s23.size)) → ∃ R27 Φ28, Stable Φ28 ∧ Ctx W w26 (R27 ++ R25) Φ28 ∧ ∀ w29 R30, Ctx W w29 (R27 ++ R30) Φ28 → Calls Tryz.prog F.wire_Reader_close #[.pointer (some (Addr.mk rB rO none)), Value.string (ByteArray.mk #[OfNat.ofNat 44])] w29 fun e31 w32 => e31 = .returned (Value.tuple #[]) ∧ ∃ R33 Φ34, Stable Φ34 ∧ Ctx W w32 (R33 ++ R30) Φ34 ∧ ∀ w35 R36, Ctx W w35 (R33 ++ R36) Φ34 → ∃ c37, w35.cell? (Addr.mk rB (rO + 1) none) = some (.bool c37) ∧ Br c37 (∀ w38 R39, Ctx W w38 (R33 ++ R39) Φ34 → J (.string (ByteArray.mk #[])) w38) (∀ w40 R41, Ctx W w40 (R33 ++ R41) Φ34 → J (.string (s20.extract 0 n4.toNat)) w40))
theorem Bwire_Reader_Text_run (rB rO : Nat) {W w : World} {R : List Own} {Φ : PW} [Stable Φ] {J : Value → World → Prop} (c : Ctx W w R Φ) (h : Bwire_Reader_Text rB rO W R Φ J) : Calls Tryz.prog F.wire_Reader_Text #[.pointer (some ⟨rB, rO, none⟩)] w fun e w' => ∃ v, e = .returned v ∧ J v w' :=
  vcFS_sound (H := { keep := some [0, 2, 3, 4, 13, 36] }) (by rw [show vcFS Tryz.prog W { keep := some [0, 2, 3, 4, 13, 36] } F.wire_Reader_Text #[.pointer (some ⟨rB, rO, none⟩)] R Φ J = Bwire_Reader_Text rB rO W R Φ J by kernel_rfl]; exact h) c
def Bwire_Reader_Done (rB rO : Nat) (W : World) (R : List Own) (Φ : PW) (J : Value → World → Prop) : Prop :=
  ∀ w0 R1, Ctx W w0 (R ++ R1) Φ → ∃ c2, w0.cell? (Addr.mk rB (rO + 1) none) = some (.bool c2) ∧ ∃ (s3 : ByteArray), ((!c2) = true → w0.cell? (Addr.mk rB rO none) = some (.string s3)) ∧ ∀ w4 R5, Ctx W w4 (R ++ R5) Φ → J (.bool (!c2 && decide (s3 = ByteArray.mk #[]))) w4
theorem Bwire_Reader_Done_run (rB rO : Nat) {W w : World} {R : List Own} {Φ : PW} [Stable Φ] {J : Value → World → Prop} (c : Ctx W w R Φ) (h : Bwire_Reader_Done rB rO W R Φ J) : Calls Tryz.prog F.wire_Reader_Done #[.pointer (some ⟨rB, rO, none⟩)] w fun e w' => ∃ v, e = .returned v ∧ J v w' :=
  vcFS_sound (H := { keep := some [0, 2] }) (by rw [show vcFS Tryz.prog W { keep := some [0, 2] } F.wire_Reader_Done #[.pointer (some ⟨rB, rO, none⟩)] R Φ J = Bwire_Reader_Done rB rO W R Φ J by kernel_rfl]; exact h) c
def Bstrings_Builder_WriteString (bB bO : Nat) (s : ByteArray) (W : World) (R : List Own) (Φ : PW) (J : Value → World → Prop) : Prop :=
  ∀ w0 R1, Ctx W w0 (R ++ R1) Φ → Calls Tryz.prog F.strings_Builder_copyCheck #[.pointer (some (Addr.mk bB bO none))] w0 fun e2 w3 => e2 = .returned (Value.tuple #[]) ∧ ∃ R4 Φ5, Stable Φ5 ∧ Ctx W w3 (R4 ++ R1) Φ5 ∧ ∀ w6 R7, Ctx W w6 (R4 ++ R7) Φ5 → ∃ p8 k9 k10, w6.cell? (Addr.mk bB (bO + 1) none) = some (.slice p8 k9 k10) ∧ ∀ w11 R12, Ctx W w11 (R4 ++ R12) Φ5 → ∃ (p13 : Option Addr) (k14 k15 : Nat) (w16 : World), Sem.run Tryz.prog (builtin Builtin.append #[87, 9] 87 #[false, false] #[.slice p8 k9 k10, .string s]) w11 = .ok (.value (.slice p13 k14 k15)) w16 ∧ ∃ R17 Φ18, Stable Φ18 ∧ Ctx W w16 (R17 ++ R12) Φ18 ∧ ∀ w19 R20, Ctx W w19 (R17 ++ R20) Φ18 → CanWrite w19 bB (bO + 1) 1 ∧ ∀ (w21 : World), w21 = w19.setCell (Addr.mk bB (bO + 1) none) (Value.slice p13 k14 k15) → ∃ R22 Φ23, Stable Φ23 ∧ Ctx W w21 (R22 ++ R20) Φ23 ∧ ∀ w24 R25, Ctx W w24 (R22 ++ R25) Φ23 → J (Value.tuple #[.int .i64
  (↑s.size : Int), Value.nilIface]) w24
theorem Bstrings_Builder_WriteString_run (bB bO : Nat) (s : ByteArray) {W w : World} {R : List Own} {Φ : PW} [Stable Φ] {J : Value → World → Prop} (c : Ctx W w R Φ) (h : Bstrings_Builder_WriteString bB bO s W R Φ J) : Calls Tryz.prog F.strings_Builder_WriteString #[.pointer (some ⟨bB, bO, none⟩), .string s] w fun e w' => ∃ v, e = .returned v ∧ J v w' :=
  vcFS_sound (H := { keep := some [0, 1, 4, 5] }) (by rw [show vcFS Tryz.prog W { keep := some [0, 1, 4, 5] } F.strings_Builder_WriteString #[.pointer (some ⟨bB, bO, none⟩), .string s] R Φ J = Bstrings_Builder_WriteString bB bO s W R Φ J by kernel_rfl]; exact h) c
def Bwire_Int (n : Int) (W : World) (R : List Own) (Φ : PW) (J : Value → World → Prop) : Prop :=
  ∀ w0 R1, Ctx W w0 (R ++ R1) Φ → Calls Tryz.prog F.strconv_Itoa #[.int .i64 n] w0 fun e2 w3 => ∃ s4, e2 = .returned (.string s4) ∧ ∃ R5 Φ6, Stable Φ6 ∧ Ctx W w3 (R5 ++ R1) Φ6 ∧ (s4.size + (ByteArray.mk #[OfNat.ofNat 59]).size).le 9223372036854775807 ∧ ∀ w7 R8, Ctx W w7 (R5 ++ R8) Φ6 → J (.string (s4 ++ ByteArray.mk #[OfNat.ofNat 59])) w7
theorem Bwire_Int_run (n : Int) {W w : World} {R : List Own} {Φ : PW} [Stable Φ] {J : Value → World → Prop} (c : Ctx W w R Φ) (h : Bwire_Int n W R Φ J) : Calls Tryz.prog F.wire_Int #[.int .i64 n] w fun e w' => ∃ v, e = .returned v ∧ J v w' :=
  vcFS_sound (H := { keep := some [0, 2] }) (by rw [show vcFS Tryz.prog W { keep := some [0, 2] } F.wire_Int #[.int .i64 n] R Φ J = Bwire_Int n W R Φ J by kernel_rfl]; exact h) c
def Bwire_Num (n : Int) (W : World) (R : List Own) (Φ : PW) (J : Value → World → Prop) : Prop :=
  Br (decide (n < 0)) (∀ w0 R1, Ctx W w0 (R ++ R1) Φ → J (.string (ByteArray.mk #[])) w0) (∀ w2 R3, Ctx W w2 (R ++ R3) Φ → Calls Tryz.prog F.wire_Int #[.int .i64 n] w2 fun e4 w5 => ∃ s6, e4 = .returned (.string s6) ∧ ∃ R7 Φ8, Stable Φ8 ∧ Ctx W w5 (R7 ++ R3) Φ8 ∧ ∀ w9 R10, Ctx W w9 (R7 ++ R10) Φ8 → J (.string s6) w9)
theorem Bwire_Num_run (n : Int) {W w : World} {R : List Own} {Φ : PW} [Stable Φ] {J : Value → World → Prop} (c : Ctx W w R Φ) (h : Bwire_Num n W R Φ J) : Calls Tryz.prog F.wire_Num #[.int .i64 n] w fun e w' => ∃ v, e = .returned v ∧ J v w' :=
  vcFS_sound (H := { keep := some [0, 2, 4] }) (by rw [show vcFS Tryz.prog W { keep := some [0, 2, 4] } F.wire_Num #[.int .i64 n] R Φ J = Bwire_Num n W R Φ J by kernel_rfl]; exact h) c
def Bwire_Text (s : ByteArray) (W : World) (R : List Own) (Φ : PW) (J : Value → World → Prop) : Prop :=
  ∀ w0 R1, Ctx W w0 (R ++ R1) Φ → Calls Tryz.prog F.strconv_Itoa #[.int .i64 (↑s.size : Int)] w0 fun e2 w3 => ∃ s4, e2 = .returned (.string s4) ∧ ∃ R5 Φ6, Stable Φ6 ∧ Ctx W w3 (R5 ++ R1) Φ6 ∧ (s4.size + (ByteArray.mk #[OfNat.ofNat 58]).size).le 9223372036854775807 ∧ ((s4 ++ ByteArray.mk #[OfNat.ofNat 58]).size + s.size).le 9223372036854775807 ∧ ((s4 ++ ByteArray.mk #[OfNat.ofNat 58] ++ s).size + (ByteArray.mk #[OfNat.ofNat 44]).size).le 9223372036854775807 ∧ ∀ w7 R8, Ctx W w7 (R5 ++ R8) Φ6 → J (.string (s4 ++ ByteArray.mk #[OfNat.ofNat 58] ++ s ++ ByteArray.mk #[OfNat.ofNat 44])) w7
theorem Bwire_Text_run (s : ByteArray) {W w : World} {R : List Own} {Φ : PW} [Stable Φ] {J : Value → World → Prop} (c : Ctx W w R Φ) (h : Bwire_Text s W R Φ J) : Calls Tryz.prog F.wire_Text #[.string s] w fun e w' => ∃ v, e = .returned v ∧ J v w' :=
  vcFS_sound (H := { keep := some [0, 2] }) (by rw [show vcFS Tryz.prog W { keep := some [0, 2] } F.wire_Text #[.string s] R Φ J = Bwire_Text s W R Φ J by kernel_rfl]; exact h) c
def Bwire_Reader_number (rB rO : Nat) (endx : Int) (least : Int) (W : World) (R : List Own) (Φ : PW) (J : Value → World → Prop) : Prop :=
  ∀ w0 R1, Ctx W w0 (R ++ R1) Φ → ∃ s2, w0.cell? (Addr.mk rB rO none) = some (.string s2) ∧ ∃ s3, w0.cell? (Addr.mk rB rO none) = some (.string s3) ∧ (0 ≤ min (↑s3.size : Int) 21 ∧ min (↑s3.size : Int) 21 ≤ (↑s2.size : Int)) ∧ ∀ w4 R5, Ctx W w4 (R ++ R5) Φ → Calls Tryz.prog F.strings_IndexByte #[.string (s2.extract 0 (min (↑s3.size : Int) 21).toNat), .int IntKind.u8 endx] w4 fun e6 w7 => ∃ n8, e6 = .returned (.int .i64 n8) ∧ ∃ R9 Φ10, Stable Φ10 ∧ Ctx W w7 (R9 ++ R5) Φ10 ∧ Br (decide (n8 < 0)) (∀ w11 R12, Ctx W w11 (R9 ++ R12) Φ10 → Calls Tryz.prog F.wire_Reader_fail #[.pointer (some (Addr.mk rB rO none))] w11 fun e13 w14 => e13 = .returned (Value.tuple #[]) ∧ ∃ R15 Φ16, Stable Φ16 ∧ Ctx W w14 (R15 ++ R12) Φ16 ∧ ∀ w17 R18, Ctx W w17 (R15 ++ R18) Φ16 → J (.int .i64 0) w17) ((0 ≤ n8 ∧ n8 ≤ (↑(s2.extract 0 (min (↑s3.size : Int) 21).toNat).size : Int)) ∧ ∀ w19 R20, Ctx W w19 (R9 ++ R20) Φ10 →
  Calls Tryz.prog F.strconv_Atoi #[.string ((s2.extract 0 (min (↑s3.size : Int) 21).toNat).extract 0 n8.toNat)] w19 fun e21 w22 => (∃ n23, e21 = .returned (Value.tuple #[.int .i64 n23, Value.nilIface]) ∧ ∃ R24 Φ25, Stable Φ25 ∧ Ctx W w22 (R24 ++ R20) Φ25 ∧ ∃ R26 Φ27, Stable Φ27 ∧ Wk W R24 Φ25 R26 Φ27 ∧ ∃ (c30 : Bool), (∀ (w31 : World), Sem.run Tryz.prog ((eqGuard BinOp.neq 91 (Operand.tmp 36) (Operand.const Value.nilIface) Value.nilIface Value.nilIface) >>= fun _ => binOp BinOp.neq 91 Value.nilIface Value.nilIface) w31 = Result.ok (Value.bool c30) w31) ∧ Br c30 (∀ w33 R34, Ctx W w33 (R24 ++ R34) Φ25 → Calls Tryz.prog F.wire_Reader_fail #[.pointer (some (Addr.mk rB rO none))] w33 fun e35 w36 => e35 = .returned (Value.tuple #[]) ∧ ∃ R37 Φ38, Stable Φ38 ∧ Ctx W w36 (R37 ++ R34) Φ38 ∧ ∀ w39 R40, Ctx W w39 (R37 ++ R40) Φ38 → J (.int .i64 0) w39) ((0 ≤ n8 ∧ n8 ≤ (↑(s2.extract 0 (min (↑s3.size :
  Int) 21).toNat).size : Int)) ∧ ∀ w41 R42, Ctx W w41 (R24 ++ R42) Φ25 → Calls Tryz.prog F.strconv_Itoa #[.int .i64 n23] w41 fun e43 w44 => ∃ s45, e43 = .returned (.string s45) ∧ ∃ R46 Φ47, Stable Φ47 ∧ Ctx W w44 (R46 ++ R42) Φ47 ∧ Wk W R46 Φ47 R26 Φ27 ∧ Br (decide (s45 ≠ (s2.extract 0 (min (↑s3.size : Int) 21).toNat).extract 0 n8.toNat)) (∀ w50 R51, Ctx W w50 (R46 ++ R51) Φ47 → Calls Tryz.prog F.wire_Reader_fail #[.pointer (some (Addr.mk rB rO none))] w50 fun e52 w53 => e52 = .returned (Value.tuple #[]) ∧ ∃ R54 Φ55, Stable Φ55 ∧ Ctx W w53 (R54 ++ R51) Φ55 ∧ ∀ w56 R57, Ctx W w56 (R54 ++ R57) Φ55 → J (.int .i64 0) w56) (Br (decide (n23 < least)) (∀ w58 R59, Ctx W w58 (R46 ++ R59) Φ47 → Calls Tryz.prog F.wire_Reader_fail #[.pointer (some (Addr.mk rB rO none))] w58 fun e60 w61 => e60 = .returned (Value.tuple #[]) ∧ ∃ R62 Φ63, Stable Φ63 ∧ Ctx W w61 (R62 ++ R59) Φ63 ∧ ∀ w64 R65, Ctx W w64
  (R62 ++ R65) Φ63 → J (.int .i64 0) w64) (∀ w66 R67, Ctx W w66 (R46 ++ R67) Φ47 → ∃ s68, w66.cell? (Addr.mk rB rO none) = some (.string s68) ∧ I64 (n8 + 1) ∧ (0 ≤ n8 + 1 ∧ n8 + 1 ≤ (↑s68.size : Int) ∧ s68.size ≤ s68.size) ∧ ∀ w69 R70, Ctx W w69 (R46 ++ R70) Φ47 → CanWrite w69 rB rO 1 ∧ ∀ (w71 : World), w71 = w69.setCell (Addr.mk rB rO none) (Value.string (s68.extract (n8 + 1).toNat s68.size)) → ∃ R72 Φ73, Stable Φ73 ∧ Ctx W w71 (R72 ++ R70) Φ73 ∧ ∀ w74 R75, Ctx W w74 (R72 ++ R75) Φ73 → J (.int .i64 n23) w74)))) ∨ ∃ (n76 : Int) (u77 : TypeId) (v78 : Value), e21 = .returned (Value.tuple #[.int .i64 n76, Value.iface u77 v78]) ∧ ∃ R79 Φ80, Stable Φ80 ∧ Ctx W w22 (R79 ++ R20) Φ80 ∧ ∃ R81 Φ82, Stable Φ82 ∧ Wk W R79 Φ80 R81 Φ82 ∧ ∃ (c85 : Bool), (∀ (w86 : World), Sem.run Tryz.prog ((eqGuard BinOp.neq 91 (Operand.tmp 36) (Operand.const Value.nilIface) (Value.iface u77 v78) Value.nilIface) >>=
  fun _ => binOp BinOp.neq 91 (Value.iface u77 v78) Value.nilIface) w86 = Result.ok (Value.bool c85) w86) ∧ Br c85 (∀ w88 R89, Ctx W w88 (R79 ++ R89) Φ80 → Calls Tryz.prog F.wire_Reader_fail #[.pointer (some (Addr.mk rB rO none))] w88 fun e90 w91 => e90 = .returned (Value.tuple #[]) ∧ ∃ R92 Φ93, Stable Φ93 ∧ Ctx W w91 (R92 ++ R89) Φ93 ∧ ∀ w94 R95, Ctx W w94 (R92 ++ R95) Φ93 → J (.int .i64 0) w94) ((0 ≤ n8 ∧ n8 ≤ (↑(s2.extract 0 (min (↑s3.size : Int) 21).toNat).size : Int)) ∧ ∀ w96 R97, Ctx W w96 (R79 ++ R97) Φ80 → Calls Tryz.prog F.strconv_Itoa #[.int .i64 n76] w96 fun e98 w99 => ∃ s100, e98 = .returned (.string s100) ∧ ∃ R101 Φ102, Stable Φ102 ∧ Ctx W w99 (R101 ++ R97) Φ102 ∧ Wk W R101 Φ102 R81 Φ82 ∧ Br (decide (s100 ≠ (s2.extract 0 (min (↑s3.size : Int) 21).toNat).extract 0 n8.toNat)) (∀ w105 R106, Ctx W w105 (R101 ++ R106) Φ102 → Calls Tryz.prog F.wire_Reader_fail #[.pointer (some
  (Addr.mk rB rO none))] w105 fun e107 w108 => e107 = .returned (Value.tuple #[]) ∧ ∃ R109 Φ110, Stable Φ110 ∧ Ctx W w108 (R109 ++ R106) Φ110 ∧ ∀ w111 R112, Ctx W w111 (R109 ++ R112) Φ110 → J (.int .i64 0) w111) (Br (decide (n76 < least)) (∀ w113 R114, Ctx W w113 (R101 ++ R114) Φ102 → Calls Tryz.prog F.wire_Reader_fail #[.pointer (some (Addr.mk rB rO none))] w113 fun e115 w116 => e115 = .returned (Value.tuple #[]) ∧ ∃ R117 Φ118, Stable Φ118 ∧ Ctx W w116 (R117 ++ R114) Φ118 ∧ ∀ w119 R120, Ctx W w119 (R117 ++ R120) Φ118 → J (.int .i64 0) w119) (∀ w121 R122, Ctx W w121 (R101 ++ R122) Φ102 → ∃ s123, w121.cell? (Addr.mk rB rO none) = some (.string s123) ∧ I64 (n8 + 1) ∧ (0 ≤ n8 + 1 ∧ n8 + 1 ≤ (↑s123.size : Int) ∧ s123.size ≤ s123.size) ∧ ∀ w124 R125, Ctx W w124 (R101 ++ R125) Φ102 → CanWrite w124 rB rO 1 ∧ ∀ (w126 : World), w126 = w124.setCell (Addr.mk rB rO none) (Value.string (s123.extract
  (n8 + 1).toNat s123.size)) → ∃ R127 Φ128, Stable Φ128 ∧ Ctx W w126 (R127 ++ R125) Φ128 ∧ ∀ w129 R130, Ctx W w129 (R127 ++ R130) Φ128 → J (.int .i64 n76) w129))))
theorem Bwire_Reader_number_run (rB rO : Nat) (endx : Int) (least : Int) {W w : World} {R : List Own} {Φ : PW} [Stable Φ] {J : Value → World → Prop} (c : Ctx W w R Φ) (h : Bwire_Reader_number rB rO endx least W R Φ J) : Calls Tryz.prog F.wire_Reader_number #[.pointer (some ⟨rB, rO, none⟩), .int .u8 endx, .int .i64 least] w fun e w' => ∃ v, e = .returned v ∧ J v w' :=
  vcFS_sound (H := { keep := some [0, 1, 2, 6, 7, 8, 9, 10, 26, 50], stages := [(7, [.held [(0, true), (1, true), (2, true), (3, true), (5, true), (6, true), (7, true), (4, false)], .stage [8, 9, 10, 11, 12, 13, 14] none])] }) (by rw [show vcFS Tryz.prog W { keep := some [0, 1, 2, 6, 7, 8, 9, 10, 26, 50], stages := [(7, [.held [(0, true), (1, true), (2, true), (3, true), (5, true), (6, true), (7, true), (4, false)], .stage [8, 9, 10, 11, 12, 13, 14] none])] } F.wire_Reader_number #[.pointer (some ⟨rB, rO, none⟩), .int .u8 endx, .int .i64 least] R Φ J = Bwire_Reader_number rB rO endx least W R Φ J by kernel_rfl]; exact h) c
def Bwire_Reader_fail (rB rO : Nat) (W : World) (R : List Own) (Φ : PW) (J : Value → World → Prop) : Prop :=
  ∀ w0 R1, Ctx W w0 (R ++ R1) Φ → CanWrite w0 rB rO 1 ∧ ∀ (w2 : World), w2 = w0.setCell (Addr.mk rB rO none) (Value.string (ByteArray.mk #[])) → ∃ R3 Φ4, Stable Φ4 ∧ Ctx W w2 (R3 ++ R1) Φ4 ∧ ∀ w5 R6, Ctx W w5 (R3 ++ R6) Φ4 → CanWrite w5 rB (rO + 1) 1 ∧ ∀ (w7 : World), w7 = w5.setCell (Addr.mk rB (rO + 1) none) (Value.bool true) → ∃ R8 Φ9, Stable Φ9 ∧ Ctx W w7 (R8 ++ R6) Φ9 ∧ ∀ w10 R11, Ctx W w10 (R8 ++ R11) Φ9 → J (Value.tuple #[]) w10
theorem Bwire_Reader_fail_run (rB rO : Nat) {W w : World} {R : List Own} {Φ : PW} [Stable Φ] {J : Value → World → Prop} (c : Ctx W w R Φ) (h : Bwire_Reader_fail rB rO W R Φ J) : Calls Tryz.prog F.wire_Reader_fail #[.pointer (some ⟨rB, rO, none⟩)] w fun e w' => ∃ v, e = .returned v ∧ J v w' :=
  vcFS_sound (H := { keep := some [] }) (by rw [show vcFS Tryz.prog W { keep := some [] } F.wire_Reader_fail #[.pointer (some ⟨rB, rO, none⟩)] R Φ J = Bwire_Reader_fail rB rO W R Φ J by kernel_rfl]; exact h) c
def Bwire_Reader_close (rB rO : Nat) (endx : ByteArray) (W : World) (R : List Own) (Φ : PW) (J : Value → World → Prop) : Prop :=
  ∀ w0 R1, Ctx W w0 (R ++ R1) Φ → ∃ s2, w0.cell? (Addr.mk rB rO none) = some (.string s2) ∧ ∀ w3 R4, Ctx W w3 (R ++ R4) Φ → Calls Tryz.prog F.strings_CutPrefix #[.string s2, .string endx] w3 fun e5 w6 => ∃ s7 c8, e5 = .returned (Value.tuple #[.string s7, .bool c8]) ∧ ∃ R9 Φ10, Stable Φ10 ∧ Ctx W w6 (R9 ++ R4) Φ10 ∧ ∀ w11 R12, Ctx W w11 (R9 ++ R12) Φ10 → CanWrite w11 rB rO 1 ∧ ∀ (w13 : World), w13 = w11.setCell (Addr.mk rB rO none) (Value.string s7) → ∃ R14 Φ15, Stable Φ15 ∧ Ctx W w13 (R14 ++ R12) Φ15 ∧ Br (!c8) (∀ w16 R17, Ctx W w16 (R14 ++ R17) Φ15 → Calls Tryz.prog F.wire_Reader_fail #[.pointer (some (Addr.mk rB rO none))] w16 fun e18 w19 => e18 = .returned (Value.tuple #[]) ∧ ∃ R20 Φ21, Stable Φ21 ∧ Ctx W w19 (R20 ++ R17) Φ21 ∧ ∀ w22 R23, Ctx W w22 (R20 ++ R23) Φ21 → J (Value.tuple #[]) w22) (∀ w24 R25, Ctx W w24 (R14 ++ R25) Φ15 → J (Value.tuple #[]) w24)
theorem Bwire_Reader_close_run (rB rO : Nat) (endx : ByteArray) {W w : World} {R : List Own} {Φ : PW} [Stable Φ] {J : Value → World → Prop} (c : Ctx W w R Φ) (h : Bwire_Reader_close rB rO endx W R Φ J) : Calls Tryz.prog F.wire_Reader_close #[.pointer (some ⟨rB, rO, none⟩), .string endx] w fun e w' => ∃ v, e = .returned v ∧ J v w' :=
  vcFS_sound (H := { keep := some [0, 4, 5, 20] }) (by rw [show vcFS Tryz.prog W { keep := some [0, 4, 5, 20] } F.wire_Reader_close #[.pointer (some ⟨rB, rO, none⟩), .string endx] R Φ J = Bwire_Reader_close rB rO endx W R Φ J by kernel_rfl]; exact h) c
end Go.Proofs.YtebnciehcnedjaaGreatDoor
end

section
namespace Go.Proofs.YtebnciehcnedjaaGreatDoor
set_option maxRecDepth 100000
open Go.Vc
def Berratalaw29_StoreTells (lP : Option Addr) (lN lC : Nat) (prefixx : ByteArray) (n : Int) (W : World) (R : List Own) (Φ : PW) (J : Value → World → Prop) : Prop :=
  ∀ w0 R1, Ctx W w0 (R ++ R1) Φ → Calls Tryz.prog F.erratalaw29_small #[] w0 fun e2 w3 => ∃ c4, e2 = .returned (.bool c4) ∧ ∃ R5 Φ6, Stable Φ6 ∧ Ctx W w3 (R5 ++ R1) Φ6 ∧ ∀ w7 R8, Ctx W w7 (R5 ++ R8) Φ6 → Calls Tryz.prog F.store_New #[] w7 fun e9 w10 => ∃ p11, e9 = .returned (.pointer p11) ∧ ∃ R12 Φ13, Stable Φ13 ∧ Ctx W w10 (R12 ++ R8) Φ13 ∧ ∀ w14 R15, Ctx W w14 (R12 ++ R15) Φ13 → Calls Tryz.prog F.errataref29_New #[] w14 fun e16 w17 => ∃ p18, e16 = .returned (.pointer p18) ∧ ∃ R19 Φ20, Stable Φ20 ∧ Ctx W w17 (R19 ++ R15) Φ20 ∧ ∀ w21 R22, Ctx W w21 (R19 ++ R22) Φ20 → Calls Tryz.prog F.erratalaw29_few #[.slice lP lN lC, .int .i64 200] w21 fun e23 w24 => ∃ c25, e23 = .returned (.bool c25) ∧ ∃ R26 Φ27, Stable Φ27 ∧ Ctx W w24 (R26 ++ R22) Φ27 ∧ Br (!c25) (∀ w28 R29, Ctx W w28 (R26 ++ R29) Φ27 → ∀ w30 R31, Ctx W w30 (R26 ++ R31) Φ27 → J (.bool (c4 && !p11.isNone)) w30) (Br p11.isNone (∀ w32
  R33, Ctx W w32 (R26 ++ R33) Φ27 → ∀ w34 R35, Ctx W w34 (R26 ++ R35) Φ27 → J (.bool (c4 && !p11.isNone)) w34) (exI fun (I36 : Option Addr → Option Addr → Int → List Own → PW → Nat → Prop) => (∃ R37 Φ38 k39, Stable Φ38 ∧ Wk W R26 Φ27 R37 Φ38 ∧ I36 p11 p18 0 R37 Φ38 k39) ∧ ∀ p42 p43 n44 R45 I46 k47, Stable I46 → I36 p42 p43 n44 R45 I46 k47 → Br (decide (n44 < (↑lN : Int))) ((0 ≤ n44 ∧ n44 < (↑lN : Int)) ∧ ptrK none lP fun k48 k49 => ∀ w50 R51, Ctx W w50 (R45 ++ R51) I46 → ∃ n52 n53 s54 s55, RowAt w50 k48 (k49 + n44.toNat * 4) [.int .i64 n52, .int .i64 n53, .string s54, .string s55] ∧ ∀ w56 R57, Ctx W w56 (R45 ++ R57) I46 → Calls Tryz.prog F.erratalaw29_do #[.pointer p42, Value.agg #[.int .i64 n52, .int .i64 n53, .string s54, .string s55]] w56 fun e58 w59 => ∃ p60 n61, e58 = .returned (Value.tuple #[.pointer p60, .int .i64 n61]) ∧ ∃ R62 Φ63, Stable Φ63 ∧ Ctx W w59 (R62 ++ R57) Φ63 ∧ (0 ≤
  n44 ∧ n44 < (↑lN : Int)) ∧ ptrK none lP fun k64 k65 => ∀ w66 R67, Ctx W w66 (R62 ++ R67) Φ63 → ∃ n68 n69 s70 s71, RowAt w66 k64 (k65 + n44.toNat * 4) [.int .i64 n68, .int .i64 n69, .string s70, .string s71] ∧ ∀ w72 R73, Ctx W w72 (R62 ++ R73) Φ63 → Calls Tryz.prog F.erratalaw29_model #[.pointer p43, Value.agg #[.int .i64 n68, .int .i64 n69, .string s70, .string s71]] w72 fun e74 w75 => ∃ p76 n77, e74 = .returned (Value.tuple #[.pointer p76, .int .i64 n77]) ∧ ∃ R78 Φ79, Stable Φ79 ∧ Ctx W w75 (R78 ++ R73) Φ79 ∧ ∀ w80 R81, Ctx W w80 (R78 ++ R81) Φ79 → Br (p60.isNone || p76.isNone || decide (n61 ≠ n77)) (∀ w82 R83, Ctx W w82 (R78 ++ R83) Φ79 → J (.bool false) w82) (∃ R84 Φ85, Stable Φ85 ∧ Wk W R78 Φ79 R84 Φ85 ∧ ptrK none p76 fun k88 k89 => ∃ (n90 : Int), (∀ w91 R92, Ctx W w91 (R84 ++ R92) Φ85 → ∃ n93, w91.cell? (Addr.mk k88 (k89 + 2) none) = some (.int .i64 n93) ∧ Value.int IntKind.i64 n93
  = Value.int IntKind.i64 n90) ∧ ∀ w94 R95, Ctx W w94 (R78 ++ R95) Φ79 → Calls Tryz.prog F.store_Store_Seq #[.pointer p60] w94 fun e96 w97 => ∃ n98, e96 = .returned (.int .i64 n98) ∧ ∃ R99 Φ100, Stable Φ100 ∧ Ctx W w97 (R99 ++ R95) Φ100 ∧ Wk W R99 Φ100 R84 Φ85 ∧ ∃ R103 Φ104, Stable Φ104 ∧ Wk W R99 Φ100 R103 Φ104 ∧ Br (decide (n98 ≠ n90)) (∃ R107 Φ108, Stable Φ108 ∧ Wk W R99 Φ100 R107 Φ108 ∧ ∃ R111 Φ112, Stable Φ112 ∧ Wk W R99 Φ100 R111 Φ112 ∧ ∀ w115 R116, Ctx W w115 (R99 ++ R116) Φ100 → J (.bool false) w115) (∀ w117 R118, Ctx W w117 (R99 ++ R118) Φ100 → Calls Tryz.prog F.store_Store_Versions #[.pointer p60] w117 fun e119 w120 => ∃ n121, e119 = .returned (.int .i64 n121) ∧ ∃ R122 Φ123, Stable Φ123 ∧ Ctx W w120 (R122 ++ R118) Φ123 ∧ Wk W R122 Φ123 R103 Φ104 ∧ ∀ w126 R127, Ctx W w126 (R122 ++ R127) Φ123 → Calls Tryz.prog F.errataref29_Store_Versions #[.pointer p76] w126 fun e128 w129 => ∃
  n130, e128 = .returned (.int .i64 n130) ∧ ∃ R131 Φ132, Stable Φ132 ∧ Ctx W w129 (R131 ++ R127) Φ132 ∧ ∃ R133 Φ134, Stable Φ134 ∧ Wk W R131 Φ132 R133 Φ134 ∧ Br (decide (n121 ≠ n130)) (∃ R137 Φ138, Stable Φ138 ∧ Wk W R131 Φ132 R137 Φ138 ∧ ∀ w141 R142, Ctx W w141 (R131 ++ R142) Φ132 → J (.bool false) w141) (∀ w143 R144, Ctx W w143 (R131 ++ R144) Φ132 → Calls Tryz.prog F.store_Store_Runs #[.pointer p60] w143 fun e145 w146 => ∃ p147 k148 k149, e145 = .returned (.slice p147 k148 k149) ∧ ∃ R150 Φ151, Stable Φ151 ∧ Ctx W w146 (R150 ++ R144) Φ151 ∧ Wk W R150 Φ151 R133 Φ134 ∧ ∀ w154 R155, Ctx W w154 (R150 ++ R155) Φ151 → Calls Tryz.prog F.errataref29_Store_Runs #[.pointer p76] w154 fun e156 w157 => ∃ p158 k159 k160, e156 = .returned (.slice p158 k159 k160) ∧ ∃ R161 Φ162, Stable Φ162 ∧ Ctx W w157 (R161 ++ R155) Φ162 ∧ ∀ w163 R164, Ctx W w163 (R161 ++ R164) Φ162 → Calls Tryz.prog
  F.errataref29_SameRuns #[.slice p147 k148 k149, .slice p158 k159 k160] w163 fun e165 w166 => ∃ c167, e165 = .returned (.bool c167) ∧ ∃ R168 Φ169, Stable Φ169 ∧ Ctx W w166 (R168 ++ R164) Φ169 ∧ ∃ R170 Φ171, Stable Φ171 ∧ Wk W R168 Φ169 R170 Φ171 ∧ Br (!c167) (∀ w174 R175, Ctx W w174 (R168 ++ R175) Φ169 → J (.bool false) w174) ((0 ≤ n44 ∧ n44 < (↑lN : Int)) ∧ ptrK none lP fun k176 k177 => (0 ≤ n44 ∧ n44 < (↑lN : Int)) ∧ ptrK none lP fun k178 k179 => ∃ (s180 : ByteArray), (∀ w181 R182, Ctx W w181 (R170 ++ R182) Φ171 → ∃ s183, w181.cell? (Addr.mk k176 (k177 + n44.toNat * 4 + 2) none) = some (.string s183) ∧ Value.string s183 = Value.string s180) ∧ ∃ (s184 : ByteArray), (∀ w185 R186, Ctx W w185 (R170 ++ R186) Φ171 → ∃ s187, w185.cell? (Addr.mk k178 (k179 + n44.toNat * 4 + 2) none) = some (.string s187) ∧ Value.string s187 = Value.string s184) ∧ ∀ w188 R189, Ctx W w188 (R168 ++ R189) Φ169 →
  Calls Tryz.prog F.store_Store_Get #[.pointer p60, .string s180] w188 fun e190 w191 => ∃ s192, e190 = .returned (.string s192) ∧ ∃ R193 Φ194, Stable Φ194 ∧ Ctx W w191 (R193 ++ R189) Φ194 ∧ Wk W R193 Φ194 R170 Φ171 ∧ ∀ w197 R198, Ctx W w197 (R193 ++ R198) Φ194 → Calls Tryz.prog F.errataref29_Store_Get #[.pointer p76, .string s184] w197 fun e199 w200 => ∃ s201, e199 = .returned (.string s201) ∧ ∃ R202 Φ203, Stable Φ203 ∧ Ctx W w200 (R202 ++ R198) Φ203 ∧ Br (decide (s192 ≠ s201)) (∀ w204 R205, Ctx W w204 (R202 ++ R205) Φ203 → J (.bool false) w204) (I64 (n44 + 1) ∧ ∃ R206 Φ207 k208, Stable Φ207 ∧ Wk W R202 Φ203 R206 Φ207 ∧ I36 p60 p76 (n44 + 1) R206 Φ207 k208 ∧ k208 < k47)))))) (∀ w211 R212, Ctx W w211 (R45 ++ R212) I46 → Calls Tryz.prog F.store_Store_Since #[.pointer p42, .int .i64 n] w211 fun e213 w214 => ∃ p215 k216 k217 n218, e213 = .returned (Value.tuple #[.slice p215 k216 k217, .int
  .i64 n218]) ∧ ∃ R219 Φ220, Stable Φ220 ∧ Ctx W w214 (R219 ++ R212) Φ220 ∧ ∀ w221 R222, Ctx W w221 (R219 ++ R222) Φ220 → Calls Tryz.prog F.errataref29_Store_Since #[.pointer p43, .int .i64 n] w221 fun e223 w224 => ∃ p225 k226 k227 n228, e223 = .returned (Value.tuple #[.slice p225 k226 k227, .int .i64 n228]) ∧ ∃ R229 Φ230, Stable Φ230 ∧ Ctx W w224 (R229 ++ R222) Φ230 ∧ Br c4 (Br (decide (n218 = n228)) (∀ w231 R232, Ctx W w231 (R229 ++ R232) Φ230 → Calls Tryz.prog F.errataref29_SameChanges #[.slice p215 k216 k217, .slice p225 k226 k227] w231 fun e233 w234 => ∃ c235, e233 = .returned (.bool c235) ∧ ∃ R236 Φ237, Stable Φ237 ∧ Ctx W w234 (R236 ++ R232) Φ237 ∧ Br c235 (∀ w238 R239, Ctx W w238 (R236 ++ R239) Φ237 → Calls Tryz.prog F.store_Store_Scan #[.pointer p42, .string prefixx] w238 fun e240 w241 => ∃ p242 k243 k244, e240 = .returned (.slice p242 k243 k244) ∧ ∃ R245 Φ246, Stable Φ246 ∧ Ctx
  W w241 (R245 ++ R239) Φ246 ∧ ∀ w247 R248, Ctx W w247 (R245 ++ R248) Φ246 → Calls Tryz.prog F.errataref29_Store_Scan #[.pointer p43, .string prefixx] w247 fun e249 w250 => ∃ p251 k252 k253, e249 = .returned (.slice p251 k252 k253) ∧ ∃ R254 Φ255, Stable Φ255 ∧ Ctx W w250 (R254 ++ R248) Φ255 ∧ ∀ w256 R257, Ctx W w256 (R254 ++ R257) Φ255 → Calls Tryz.prog F.errataref29_SamePairs #[.slice p242 k243 k244, .slice p251 k252 k253] w256 fun e258 w259 => ∃ c260, e258 = .returned (.bool c260) ∧ ∃ R261 Φ262, Stable Φ262 ∧ Ctx W w259 (R261 ++ R257) Φ262 ∧ Br c260 (∀ w263 R264, Ctx W w263 (R261 ++ R264) Φ262 → Calls Tryz.prog F.store_Store_Len #[.pointer p42] w263 fun e265 w266 => ∃ n267, e265 = .returned (.int .i64 n267) ∧ ∃ R268 Φ269, Stable Φ269 ∧ Ctx W w266 (R268 ++ R264) Φ269 ∧ ∀ w270 R271, Ctx W w270 (R268 ++ R271) Φ269 → Calls Tryz.prog F.errataref29_Store_All #[.pointer p43] w270 fun e272 w273
  => ∃ p274 k275 k276, e272 = .returned (.slice p274 k275 k276) ∧ ∃ R277 Φ278, Stable Φ278 ∧ Ctx W w273 (R277 ++ R271) Φ278 ∧ Br (decide (n267 = (↑k275 : Int))) (∀ w279 R280, Ctx W w279 (R277 ++ R280) Φ278 → Calls Tryz.prog F.store_Store_Snapshot #[.pointer p42] w279 fun e281 w282 => ∃ s283, e281 = .returned (.string s283) ∧ ∃ R284 Φ285, Stable Φ285 ∧ Ctx W w282 (R284 ++ R280) Φ285 ∧ ∀ w286 R287, Ctx W w286 (R284 ++ R287) Φ285 → Calls Tryz.prog F.errataref29_Store_Snapshot #[.pointer p43] w286 fun e288 w289 => ∃ s290, e288 = .returned (.string s290) ∧ ∃ R291 Φ292, Stable Φ292 ∧ Ctx W w289 (R291 ++ R287) Φ292 ∧ ∀ w293 R294, Ctx W w293 (R291 ++ R294) Φ292 → J (.bool (decide (s283 = s290))) w293) (∀ w295 R296, Ctx W w295 (R277 ++ R296) Φ278 → J (.bool false) w295)) (∀ w297 R298, Ctx W w297 (R261 ++ R298) Φ262 → J (.bool false) w297)) (∀ w299 R300, Ctx W w299 (R236 ++ R300) Φ237 → J (.bool
  false) w299)) (∀ w301 R302, Ctx W w301 (R229 ++ R302) Φ230 → J (.bool false) w301)) (∀ w303 R304, Ctx W w303 (R229 ++ R304) Φ230 → J (.bool false) w303))))
theorem Berratalaw29_StoreTells_run (lP : Option Addr) (lN lC : Nat) (prefixx : ByteArray) (n : Int) {W w : World} {R : List Own} {Φ : PW} [Stable Φ] {J : Value → World → Prop} (c : Ctx W w R Φ) (h : Berratalaw29_StoreTells lP lN lC prefixx n W R Φ J) : Calls Tryz.prog F.erratalaw29_StoreTells #[.slice lP lN lC, .string prefixx, .int .i64 n] w fun e w' => ∃ v, e = .returned v ∧ J v w' :=
  vcFS_sound (H := { keep := some [0, 1, 2, 6, 7, 8, 9, 10, 11, 12, 13, 14, 15, 16, 17, 18, 28, 37, 68, 109], stages := [(15, [.held [(0, true), (2, true), (3, true), (4, true), (5, true), (1, false)], .held [(6, true), (7, true), (8, true), (10, true), (9, false)], .stage [] (some 11), .held [(12, true), (13, true), (14, true), (15, true), (17, true), (16, false)], .stage [] (some 18), .stage [] (some 19), .held [(20, true), (21, true), (22, true), (23, true), (24, true), (25, true), (30, true), (31, true), (32, true), (26, true), (33, true), (27, true), (34, true), (28, true), (35, true), (29, false)], .stage [] (some 36), .stage [37, 38] none])], split := [4, 19], loops := [(7, [(8, .one (.ptr)), (9, .one (.ptr)), (10, .one (.int .i64))], [])] }) (by rw [show vcFS Tryz.prog W { keep := some [0, 1, 2, 6, 7, 8, 9, 10, 11, 12, 13, 14, 15, 16, 17, 18, 28, 37, 68, 109], stages := [(15, [.held [(0, true), (2, true), (3, true), (4, true), (5, true), (1, false)], .held [(6, true), (7, true), (8, true), (10, true), (9, false)], .stage [] (some 11), .held [(12, true), (13, true), (14, true), (15, true), (17, true), (16, false)], .stage [] (some 18), .stage [] (some 19), .held [(20, true), (21, true), (22, true), (23, true), (24, true), (25, true), (30, true), (31, true), (32, true), (26, true), (33, true), (27, true), (34, true), (28, true), (35, true), (29, false)], .stage [] (some 36), .stage [37, 38] none])], split := [4, 19], loops := [(7, [(8, .one (.ptr)), (9, .one (.ptr)), (10, .one (.int .i64))], [])] } F.erratalaw29_StoreTells #[.slice lP lN lC, .string prefixx, .int .i64 n] R Φ J = Berratalaw29_StoreTells lP lN lC prefixx n W R Φ J by kernel_rfl]; exact h) c
def Berrataref29_SamePairs (aP : Option Addr) (aN aC : Nat) (bP : Option Addr) (bN bC : Nat) (W : World) (R : List Own) (Φ : PW) (J : Value → World → Prop) : Prop :=
  Br (decide ((↑aN : Int) ≠ (↑bN : Int))) (∀ w0 R1, Ctx W w0 (R ++ R1) Φ → J (.bool false) w0) (exI fun (I2 : Int → List Own → PW → Nat → Prop) => (∃ R3 Φ4 k5, Stable Φ4 ∧ Wk W R Φ R3 Φ4 ∧ I2 0 R3 Φ4 k5) ∧ ∀ n8 R9 I10 k11, Stable I10 → I2 n8 R9 I10 k11 → Br (decide (n8 < (↑aN : Int))) (∀ w12 R13, Ctx W w12 (R9 ++ R13) I10 → (0 ≤ n8 ∧ n8 < (↑aN : Int)) ∧ ptrK none aP fun k14 k15 => ∃ s16 s17, RowAt w12 k14 (k15 + n8.toNat * 2) [.string s16, .string s17] ∧ (0 ≤ n8 ∧ n8 < (↑bN : Int)) ∧ ptrK none bP fun k18 k19 => ∃ s20 s21, RowAt w12 k18 (k19 + n8.toNat * 2) [.string s20, .string s21] ∧ okAgg Tryz.prog 69 = true ∧ Br (!(decide (s16 = s20) && (decide (s17 = s21) && true))) (∀ w22 R23, Ctx W w22 (R9 ++ R23) I10 → J (.bool false) w22) (I64 (n8 + 1) ∧ ∃ R24 Φ25 k26, Stable Φ25 ∧ Wk W R9 I10 R24 Φ25 ∧ I2 (n8 + 1) R24 Φ25 k26 ∧ k26 < k11)) (∀ w29 R30, Ctx W w29 (R9 ++ R30) I10 → J (.bool true)
  w29))
theorem Berrataref29_SamePairs_run (aP : Option Addr) (aN aC : Nat) (bP : Option Addr) (bN bC : Nat) {W w : World} {R : List Own} {Φ : PW} [Stable Φ] {J : Value → World → Prop} (c : Ctx W w R Φ) (h : Berrataref29_SamePairs aP aN aC bP bN bC W R Φ J) : Calls Tryz.prog F.errataref29_SamePairs #[.slice aP aN aC, .slice bP bN bC] w fun e w' => ∃ v, e = .returned v ∧ J v w' :=
  vcFS_sound (H := { keep := some [0, 1, 4, 5, 10, 14, 25], loops := [(4, [(5, .one (.int .i64))], [])] }) (by rw [show vcFS Tryz.prog W { keep := some [0, 1, 4, 5, 10, 14, 25], loops := [(4, [(5, .one (.int .i64))], [])] } F.errataref29_SamePairs #[.slice aP aN aC, .slice bP bN bC] R Φ J = Berrataref29_SamePairs aP aN aC bP bN bC W R Φ J by kernel_rfl]; exact h) c
def Berrataref29_New  (W : World) (R : List Own) (Φ : PW) (J : Value → World → Prop) : Prop :=
  ∀ (k0 : Nat) (w1 : World) (R2 : List Own), Ctx W w1 (Own.blk k0 [.slice none 0 0, .slice none 0 0, .int .i64 0, .slice none 0 0, .int .i64 0] 60 :: R ++ R2) Φ → J (.pointer (some (Addr.mk k0 0 none))) w1
theorem Berrataref29_New_run  {W w : World} {R : List Own} {Φ : PW} [Stable Φ] {J : Value → World → Prop} (c : Ctx W w R Φ) (h : Berrataref29_New  W R Φ J) : Calls Tryz.prog F.errataref29_New #[] w fun e w' => ∃ v, e = .returned v ∧ J v w' :=
  vcFS_sound (H := { keep := some [0] }) (by rw [show vcFS Tryz.prog W { keep := some [0] } F.errataref29_New #[] R Φ J = Berrataref29_New  W R Φ J by kernel_rfl]; exact h) c
def Berratalaw29_model (sB sO : Nat) (x0 : Int) (x1 : Int) (x2 : ByteArray) (x3 : ByteArray) (W : World) (R : List Own) (Φ : PW) (J : Value → World → Prop) : Prop :=
  ∀ (b : Nat), ∃ (n0 : Int), (∀ (w1 : World), Sem.run Tryz.prog (binOp BinOp.and 3 (Value.int IntKind.i64 x0) (Value.int IntKind.i64 7)) w1 = Result.ok (Value.int IntKind.i64 n0) w1) ∧ Br (decide (n0 = 5)) (∀ w2 R3, Ctx W w2 (R ++ R3) Φ → Calls Tryz.prog F.errataref29_Store_Trim #[.pointer (some (Addr.mk sB sO none)), .int .i64 x1] w2 fun e4 w5 => e4 = .returned (Value.tuple #[]) ∧ ∃ R6 Φ7, Stable Φ7 ∧ Ctx W w5 (R6 ++ R3) Φ7 ∧ ∀ w8 R9, Ctx W w8 (R6 ++ R9) Φ7 → J (Value.tuple #[.pointer (some (Addr.mk sB sO none)), .int .i64 0]) w8) (Br (decide (n0 = 6)) (∀ w10 R11, Ctx W w10 (R ++ R11) Φ → Calls Tryz.prog F.errataref29_Store_Apply #[.pointer (some (Addr.mk sB sO none)), Value.agg #[.int .i64 x1, .string x2, .string x3]] w10 fun e12 w13 => ∃ n14, e12 = .returned (.int .i64 n14) ∧ ∃ R15 Φ16, Stable Φ16 ∧ Ctx W w13 (R15 ++ R11) Φ16 ∧ ∀ w17 R18, Ctx W w17 (R15 ++ R18) Φ16 → J (Value.tuple
  #[.pointer (some (Addr.mk sB sO none)), .int .i64 n14]) w17) (Br (decide (n0 = 7)) (∃ (n19 : Int), (∀ (w20 : World), Sem.run Tryz.prog (binOp BinOp.and 3 (Value.int IntKind.i64 x1) (Value.int IntKind.i64 1)) w20 = Result.ok (Value.int IntKind.i64 n19) w20) ∧ Br (decide (n19 = 1)) (∀ w21 R22, Ctx W w21 (R ++ R22) Φ → Calls Tryz.prog F.errataref29_Store_Snapshot #[.pointer (some (Addr.mk sB sO none))] w21 fun e23 w24 => ∃ s25, e23 = .returned (.string s25) ∧ ∃ R26 Φ27, Stable Φ27 ∧ Ctx W w24 (R26 ++ R22) Φ27 ∧ ∀ w28 R29, Ctx W w28 (R26 ++ R29) Φ27 → Calls Tryz.prog F.errataref29_Restore #[.string s25] w28 fun e30 w31 => ∃ p32 c33, e30 = .returned (Value.tuple #[.pointer p32, .bool c33]) ∧ ∃ R34 Φ35, Stable Φ35 ∧ Ctx W w31 (R34 ++ R29) Φ35 ∧ ∀ w36 R37, Ctx W w36 (R34 ++ R37) Φ35 → J (Value.tuple #[.pointer p32, .int .i64 0]) w36) (∀ w38 R39, Ctx W w38 (R ++ R39) Φ → J (Value.tuple
  #[.pointer (some (Addr.mk sB sO none)), .int .i64 0]) w38)) (∀ w40 R41, Ctx W w40 (R ++ R41) Φ → Calls Tryz.prog F.errataref29_Store_Put #[.pointer (some (Addr.mk sB sO none)), .string x2, .string x3] w40 fun e42 w43 => e42 = .returned (Value.tuple #[]) ∧ ∃ R44 Φ45, Stable Φ45 ∧ Ctx W w43 (R44 ++ R41) Φ45 ∧ ∀ w46 R47, Ctx W w46 (R44 ++ R47) Φ45 → J (Value.tuple #[.pointer (some (Addr.mk sB sO none)), .int .i64 0]) w46)))
theorem Berratalaw29_model_run (sB sO : Nat) (x0 : Int) (x1 : Int) (x2 : ByteArray) (x3 : ByteArray) {W w : World} {R : List Own} {Φ : PW} [Stable Φ] {J : Value → World → Prop} (c : Ctx W w R Φ) (h : Berratalaw29_model sB sO x0 x1 x2 x3 W R Φ J) : Calls Tryz.prog F.erratalaw29_model #[.pointer (some ⟨sB, sO, none⟩), .agg #[.int .i64 x0, .int .i64 x1, .string x2, .string x3]] w fun e w' => ∃ v, e = .returned v ∧ J v w' :=
  vcFS_sound (H := { keep := some [0, 3, 4, 5, 6, 10, 17, 23, 35, 40], track := [3] }) (by rw [show vcFS Tryz.prog W { keep := some [0, 3, 4, 5, 6, 10, 17, 23, 35, 40], track := [3] } F.erratalaw29_model #[.pointer (some ⟨sB, sO, none⟩), .agg #[.int .i64 x0, .int .i64 x1, .string x2, .string x3]] R Φ J = Berratalaw29_model sB sO x0 x1 x2 x3 W R Φ J by kernel_rfl]; exact h) c
def Berrataref29_Store_Versions (sB sO : Nat) (W : World) (R : List Own) (Φ : PW) (J : Value → World → Prop) : Prop :=
  ∀ w0 R1, Ctx W w0 (R ++ R1) Φ → ∃ p2 k3 k4, w0.cell? (Addr.mk sB sO none) = some (.slice p2 k3 k4) ∧ ∀ w5 R6, Ctx W w5 (R ++ R6) Φ → Calls Tryz.prog F.errataref29_Store_Runs #[.pointer (some (Addr.mk sB sO none))] w5 fun e7 w8 => ∃ p9 k10 k11, e7 = .returned (.slice p9 k10 k11) ∧ ∃ R12 Φ13, Stable Φ13 ∧ Ctx W w8 (R12 ++ R6) Φ13 ∧ exI fun (I14 : Int → Int → List Own → PW → Nat → Prop) => (∃ R15 Φ16 k17, Stable Φ16 ∧ Wk W R12 Φ13 R15 Φ16 ∧ I14 (↑k3 : Int) 0 R15 Φ16 k17) ∧ ∀ n20 n21 R22 I23 k24, Stable I23 → I14 n20 n21 R22 I23 k24 → Br (decide (n21 < (↑k10 : Int))) (exI fun (I25 : Int → Int → List Own → PW → Nat → Prop) => (∃ R26 Φ27 k28, Stable Φ27 ∧ Wk W R22 I23 R26 Φ27 ∧ I25 n20 0 R26 Φ27 k28) ∧ ∀ n31 n32 R33 I34 k35, Stable I34 → I25 n31 n32 R33 I34 k35 → (0 ≤ n21 ∧ n21 < (↑k10 : Int)) ∧ ptrK none p9 fun k36 k37 => ∀ w38 R39, Ctx W w38 (R33 ++ R39) I34 → ∃ p40 k41 k42, w38.cell?
  (Addr.mk k36 (k37 + n21.toNat) none) = some (.slice p40 k41 k42) ∧ Br (decide (n32 < (↑k41 : Int))) ((0 ≤ n21 ∧ n21 < (↑k10 : Int)) ∧ ptrK none p9 fun k43 k44 => ∀ w45 R46, Ctx W w45 (R33 ++ R46) I34 → ∃ p47 k48 k49, w45.cell? (Addr.mk k43 (k44 + n21.toNat) none) = some (.slice p47 k48 k49) ∧ (0 ≤ n32 ∧ n32 < (↑k48 : Int)) ∧ ptrK none p47 fun k50 k51 => ∀ w52 R53, Ctx W w52 (R33 ++ R53) I34 → ∃ n54, w52.cell? (Addr.mk k50 (k51 + n32.toNat) none) = some (.int .i64 n54) ∧ I64 (n31 + n54) ∧ I64 (n32 + 1) ∧ ∃ R55 Φ56 k57, Stable Φ56 ∧ Wk W R33 I34 R55 Φ56 ∧ I25 (n31 + n54) (n32 + 1) R55 Φ56 k57 ∧ k57 < k35) (I64 (n21 + 1) ∧ ∃ R60 Φ61 k62, Stable Φ61 ∧ Wk W R33 I34 R60 Φ61 ∧ I14 n31 (n21 + 1) R60 Φ61 k62 ∧ k62 < k24)) (∀ w65 R66, Ctx W w65 (R22 ++ R66) I23 → J (.int .i64 n20) w65)
theorem Berrataref29_Store_Versions_run (sB sO : Nat) {W w : World} {R : List Own} {Φ : PW} [Stable Φ] {J : Value → World → Prop} (c : Ctx W w R Φ) (h : Berrataref29_Store_Versions sB sO W R Φ J) : Calls Tryz.prog F.errataref29_Store_Versions #[.pointer (some ⟨sB, sO, none⟩)] w fun e w' => ∃ v, e = .returned v ∧ J v w' :=
  vcFS_sound (H := { keep := some [0, 2, 3, 4, 5, 6, 17, 26], loops := [(7, [(3, .one (.int .i64)), (6, .one (.int .i64))], []), (4, [(3, .one (.int .i64)), (5, .one (.int .i64))], [])] }) (by rw [show vcFS Tryz.prog W { keep := some [0, 2, 3, 4, 5, 6, 17, 26], loops := [(7, [(3, .one (.int .i64)), (6, .one (.int .i64))], []), (4, [(3, .one (.int .i64)), (5, .one (.int .i64))], [])] } F.errataref29_Store_Versions #[.pointer (some ⟨sB, sO, none⟩)] R Φ J = Berrataref29_Store_Versions sB sO W R Φ J by kernel_rfl]; exact h) c
def Berrataref29_SameRuns (aP : Option Addr) (aN aC : Nat) (bP : Option Addr) (bN bC : Nat) (W : World) (R : List Own) (Φ : PW) (J : Value → World → Prop) : Prop :=
  Br (decide ((↑aN : Int) ≠ (↑bN : Int))) (∀ w0 R1, Ctx W w0 (R ++ R1) Φ → J (.bool false) w0) (exI fun (I2 : Int → List Own → PW → Nat → Prop) => (∃ R3 Φ4 k5, Stable Φ4 ∧ Wk W R Φ R3 Φ4 ∧ I2 0 R3 Φ4 k5) ∧ ∀ n8 R9 I10 k11, Stable I10 → I2 n8 R9 I10 k11 → Br (decide (n8 < (↑aN : Int))) (∀ w12 R13, Ctx W w12 (R9 ++ R13) I10 → (0 ≤ n8 ∧ n8 < (↑aN : Int)) ∧ ptrK none aP fun k14 k15 => ∃ p16 k17 k18, w12.cell? (Addr.mk k14 (k15 + n8.toNat) none) = some (.slice p16 k17 k18) ∧ (0 ≤ n8 ∧ n8 < (↑bN : Int)) ∧ ptrK none bP fun k19 k20 => ∃ p21 k22 k23, w12.cell? (Addr.mk k19 (k20 + n8.toNat) none) = some (.slice p21 k22 k23) ∧ Br (decide ((↑k17 : Int) ≠ (↑k22 : Int))) (∀ w24 R25, Ctx W w24 (R9 ++ R25) I10 → J (.bool false) w24) (exI fun (I26 : Int → List Own → PW → Nat → Prop) => (∃ R27 Φ28 k29, Stable Φ28 ∧ Wk W R9 I10 R27 Φ28 ∧ I26 0 R27 Φ28 k29) ∧ ∀ n32 R33 I34 k35, Stable I34 → I26 n32 R33 I34
  k35 → (0 ≤ n8 ∧ n8 < (↑aN : Int)) ∧ ptrK none aP fun k36 k37 => ∀ w38 R39, Ctx W w38 (R33 ++ R39) I34 → ∃ p40 k41 k42, w38.cell? (Addr.mk k36 (k37 + n8.toNat) none) = some (.slice p40 k41 k42) ∧ Br (decide (n32 < (↑k41 : Int))) (∀ w43 R44, Ctx W w43 (R33 ++ R44) I34 → (0 ≤ n8 ∧ n8 < (↑aN : Int)) ∧ ptrK none aP fun k45 k46 => ∃ p47 k48 k49, w43.cell? (Addr.mk k45 (k46 + n8.toNat) none) = some (.slice p47 k48 k49) ∧ (0 ≤ n32 ∧ n32 < (↑k48 : Int)) ∧ ptrK none p47 fun k50 k51 => ∃ n52, w43.cell? (Addr.mk k50 (k51 + n32.toNat) none) = some (.int .i64 n52) ∧ (0 ≤ n8 ∧ n8 < (↑bN : Int)) ∧ ptrK none bP fun k53 k54 => ∃ p55 k56 k57, w43.cell? (Addr.mk k53 (k54 + n8.toNat) none) = some (.slice p55 k56 k57) ∧ (0 ≤ n32 ∧ n32 < (↑k56 : Int)) ∧ ptrK none p55 fun k58 k59 => ∃ n60, w43.cell? (Addr.mk k58 (k59 + n32.toNat) none) = some (.int .i64 n60) ∧ Br (decide (n52 ≠ n60)) (∀ w61 R62, Ctx W w61 (R33
  ++ R62) I34 → J (.bool false) w61) (I64 (n32 + 1) ∧ ∃ R63 Φ64 k65, Stable Φ64 ∧ Wk W R33 I34 R63 Φ64 ∧ I26 (n32 + 1) R63 Φ64 k65 ∧ k65 < k35)) (I64 (n8 + 1) ∧ ∃ R68 Φ69 k70, Stable Φ69 ∧ Wk W R33 I34 R68 Φ69 ∧ I2 (n8 + 1) R68 Φ69 k70 ∧ k70 < k11))) (∀ w73 R74, Ctx W w73 (R9 ++ R74) I10 → J (.bool true) w73))
theorem Berrataref29_SameRuns_run (aP : Option Addr) (aN aC : Nat) (bP : Option Addr) (bN bC : Nat) {W w : World} {R : List Own} {Φ : PW} [Stable Φ] {J : Value → World → Prop} (c : Ctx W w R Φ) (h : Berrataref29_SameRuns aP aN aC bP bN bC W R Φ J) : Calls Tryz.prog F.errataref29_SameRuns #[.slice aP aN aC, .slice bP bN bC] w fun e w' => ∃ v, e = .returned v ∧ J v w' :=
  vcFS_sound (H := { keep := some [0, 1, 4, 5, 6, 11, 15, 28, 35, 52], loops := [(9, [(6, .one (.int .i64))], []), (4, [(5, .one (.int .i64))], [])] }) (by rw [show vcFS Tryz.prog W { keep := some [0, 1, 4, 5, 6, 11, 15, 28, 35, 52], loops := [(9, [(6, .one (.int .i64))], []), (4, [(5, .one (.int .i64))], [])] } F.errataref29_SameRuns #[.slice aP aN aC, .slice bP bN bC] R Φ J = Berrataref29_SameRuns aP aN aC bP bN bC W R Φ J by kernel_rfl]; exact h) c
def Berrataref29_Store_Runs (sB sO : Nat) (W : World) (R : List Own) (Φ : PW) (J : Value → World → Prop) : Prop :=
  exI fun (I0 : Option Addr → Nat → Nat → Int → List Own → PW → Nat → Prop) => (∃ R1 Φ2 k3, Stable Φ2 ∧ Wk W R Φ R1 Φ2 ∧ I0 none 0 0 0 R1 Φ2 k3) ∧ ∀ p6 k7 k8 n9 R10 I11 k12, Stable I11 → I0 p6 k7 k8 n9 R10 I11 k12 → ∀ w13 R14, Ctx W w13 (R10 ++ R14) I11 → ∃ p15 k16 k17, w13.cell? (Addr.mk sB (sO + 1) none) = some (.slice p15 k16 k17) ∧ Br (decide (n9 < (↑k16 : Int))) (exI fun (I18 : Option Addr → Nat → Nat → Int → List Own → PW → Nat → Prop) => (∃ R19 Φ20 k21, Stable Φ20 ∧ Wk W R10 I11 R19 Φ20 ∧ I18 none 0 0 0 R19 Φ20 k21) ∧ ∀ p24 k25 k26 n27 R28 I29 k30, Stable I29 → I18 p24 k25 k26 n27 R28 I29 k30 → ∀ w31 R32, Ctx W w31 (R28 ++ R32) I29 → ∃ p33 k34 k35, w31.cell? (Addr.mk sB (sO + 1) none) = some (.slice p33 k34 k35) ∧ (0 ≤ n9 ∧ n9 < (↑k34 : Int)) ∧ ptrK none p33 fun k36 k37 => ∀ w38 R39, Ctx W w38 (R28 ++ R39) I29 → ∃ p40 k41 k42, w38.cell? (Addr.mk k36 (k37 + n9.toNat) none) = some
  (.slice p40 k41 k42) ∧ Br (decide (n27 < (↑k41 : Int))) (∀ w43 R44, Ctx W w43 (R28 ++ R44) I29 → ∃ p45 k46 k47, w43.cell? (Addr.mk sB (sO + 1) none) = some (.slice p45 k46 k47) ∧ (0 ≤ n9 ∧ n9 < (↑k46 : Int)) ∧ ptrK none p45 fun k48 k49 => ∀ w50 R51, Ctx W w50 (R28 ++ R51) I29 → ∃ p52 k53 k54, w50.cell? (Addr.mk k48 (k49 + n9.toNat) none) = some (.slice p52 k53 k54) ∧ (0 ≤ n27 ∧ n27 < (↑k53 : Int)) ∧ ptrK none p52 fun k55 k56 => ∀ w57 R58, Ctx W w57 (R28 ++ R58) I29 → ∃ p59 k60 k61, w57.cell? (Addr.mk k55 (k56 + n27.toNat) none) = some (.slice p59 k60 k61) ∧ ∀ (k62 : Nat) (w63 : World) (R64 : List Own), Ctx W w63 (Own.blk k62 [.int .i64 (↑k60 : Int)] 3 :: R28 ++ R64) I29 → ∃ (p65 : Option Addr) (k66 k67 : Nat) (w68 : World), Sem.run Tryz.prog (builtin Builtin.append #[53, 53] 53 #[false, false] #[.slice p24 k25 k26, .slice (some (Addr.mk k62 0 none)) 1 1]) w63 = .ok (.value (.slice p65
  k66 k67)) w68 ∧ ∃ R69 Φ70, Stable Φ70 ∧ Ctx W w68 (R69 ++ R64) Φ70 ∧ I64 (n27 + 1) ∧ ∃ R71 Φ72 k73, Stable Φ72 ∧ Wk W R69 Φ70 R71 Φ72 ∧ I18 p65 k66 k67 (n27 + 1) R71 Φ72 k73 ∧ k73 < k30) (∀ (k76 : Nat) (w77 : World) (R78 : List Own), Ctx W w77 (Own.blk k76 [.slice p24 k25 k26] 53 :: R28 ++ R78) I29 → ∃ (p79 : Option Addr) (k80 k81 : Nat) (w82 : World), Sem.run Tryz.prog (builtin Builtin.append #[51, 51] 51 #[false, false] #[.slice p6 k7 k8, .slice (some (Addr.mk k76 0 none)) 1 1]) w77 = .ok (.value (.slice p79 k80 k81)) w82 ∧ ∃ R83 Φ84, Stable Φ84 ∧ Ctx W w82 (R83 ++ R78) Φ84 ∧ I64 (n9 + 1) ∧ ∃ R85 Φ86 k87, Stable Φ86 ∧ Wk W R83 Φ84 R85 Φ86 ∧ I0 p79 k80 k81 (n9 + 1) R85 Φ86 k87 ∧ k87 < k12)) (exI fun (I90 : Int → List Own → PW → Nat → Prop) => (∃ R91 Φ92 k93, Stable Φ92 ∧ Wk W R10 I11 R91 Φ92 ∧ I90 (↑k7 : Int) R91 Φ92 k93) ∧ ∀ n96 R97 I98 k99, Stable I98 → I90 n96 R97 I98 k99 → ∀ w100
  R101, Ctx W w100 (R97 ++ R101) I98 → (decide (0 < n96) = true → I64 (n96 - 1)) ∧ (decide (0 < n96) = true → 0 ≤ max (n96 - 1) 0 ∧ max (n96 - 1) 0 < (↑k7 : Int)) ∧ ptrK (some (decide (0 < n96))) p6 fun k102 k103 => ∃ (p104 : Option Addr) (k105 k106 : Nat), (decide (0 < n96) = true → w100.cell? (Addr.mk k102 (k103 + (max (n96 - 1) 0).toNat) none) = some (.slice p104 k105 k106)) ∧ Br (decide (0 < n96) && decide ((↑k105 : Int) = 0)) (I64 (n96 - 1) ∧ ∃ R107 Φ108 k109, Stable Φ108 ∧ Wk W R97 I98 R107 Φ108 ∧ I90 (n96 - 1) R107 Φ108 k109 ∧ k109 < k99) ((0 ≤ n96 ∧ n96 ≤ (↑k8 : Int)) ∧ ∀ w112 R113, Ctx W w112 (R97 ++ R113) I98 → J (.slice (subPtr p6 1 0 k8) n96.toNat k8) w112))
theorem Berrataref29_Store_Runs_run (sB sO : Nat) {W w : World} {R : List Own} {Φ : PW} [Stable Φ] {J : Value → World → Prop} (c : Ctx W w R Φ) (h : Berrataref29_Store_Runs sB sO W R Φ J) : Calls Tryz.prog F.errataref29_Store_Runs #[.pointer (some ⟨sB, sO, none⟩)] w fun e w' => ∃ v, e = .returned v ∧ J v w' :=
  vcFS_sound (H := { keep := some [0, 2, 3, 4, 5, 6, 7, 14, 26, 60], loops := [(12, [(7, .one (.int .i64))], []), (7, [(5, .one (.slice)), (6, .one (.int .i64))], []), (3, [(3, .one (.slice)), (4, .one (.int .i64))], [])] }) (by rw [show vcFS Tryz.prog W { keep := some [0, 2, 3, 4, 5, 6, 7, 14, 26, 60], loops := [(12, [(7, .one (.int .i64))], []), (7, [(5, .one (.slice)), (6, .one (.int .i64))], []), (3, [(3, .one (.slice)), (4, .one (.int .i64))], [])] } F.errataref29_Store_Runs #[.pointer (some ⟨sB, sO, none⟩)] R Φ J = Berrataref29_Store_Runs sB sO W R Φ J by kernel_rfl]; exact h) c
def Berrataref29_Store_Get (sB sO : Nat) (key : ByteArray) (W : World) (R : List Own) (Φ : PW) (J : Value → World → Prop) : Prop :=
  ∀ w0 R1, Ctx W w0 (R ++ R1) Φ → Calls Tryz.prog F.errataref29_Store_All #[.pointer (some (Addr.mk sB sO none))] w0 fun e2 w3 => ∃ p4 k5 k6, e2 = .returned (.slice p4 k5 k6) ∧ ∃ R7 Φ8, Stable Φ8 ∧ Ctx W w3 (R7 ++ R1) Φ8 ∧ exI fun (I9 : Int → List Own → PW → Nat → Prop) => (∃ R10 Φ11 k12, Stable Φ11 ∧ Wk W R7 Φ8 R10 Φ11 ∧ I9 0 R10 Φ11 k12) ∧ ∀ n15 R16 I17 k18, Stable I17 → I9 n15 R16 I17 k18 → Br (decide (n15 < (↑k5 : Int))) ((0 ≤ n15 ∧ n15 < (↑k5 : Int)) ∧ ptrK none p4 fun k19 k20 => ∀ w21 R22, Ctx W w21 (R16 ++ R22) I17 → ∃ s23, w21.cell? (Addr.mk k19 (k20 + n15.toNat * 2) none) = some (.string s23) ∧ Br (decide (s23 = key)) ((0 ≤ n15 ∧ n15 < (↑k5 : Int)) ∧ ptrK none p4 fun k24 k25 => ∀ w26 R27, Ctx W w26 (R16 ++ R27) I17 → ∃ s28, w26.cell? (Addr.mk k24 (k25 + n15.toNat * 2 + 1) none) = some (.string s28) ∧ ∀ w29 R30, Ctx W w29 (R16 ++ R30) I17 → J (.string s28) w29) (I64 (n15 + 1) ∧ ∃
  R31 Φ32 k33, Stable Φ32 ∧ Wk W R16 I17 R31 Φ32 ∧ I9 (n15 + 1) R31 Φ32 k33 ∧ k33 < k18)) (∀ w36 R37, Ctx W w36 (R16 ++ R37) I17 → J (.string (ByteArray.mk #[])) w36)
theorem Berrataref29_Store_Get_run (sB sO : Nat) (key : ByteArray) {W w : World} {R : List Own} {Φ : PW} [Stable Φ] {J : Value → World → Prop} (c : Ctx W w R Φ) (h : Berrataref29_Store_Get sB sO key W R Φ J) : Calls Tryz.prog F.errataref29_Store_Get #[.pointer (some ⟨sB, sO, none⟩), .string key] w fun e w' => ∃ v, e = .returned v ∧ J v w' :=
  vcFS_sound (H := { keep := some [0, 1, 4, 5, 6, 12, 21], loops := [(3, [(6, .one (.int .i64))], [])] }) (by rw [show vcFS Tryz.prog W { keep := some [0, 1, 4, 5, 6, 12, 21], loops := [(3, [(6, .one (.int .i64))], [])] } F.errataref29_Store_Get #[.pointer (some ⟨sB, sO, none⟩), .string key] R Φ J = Berrataref29_Store_Get sB sO key W R Φ J by kernel_rfl]; exact h) c
def Berrataref29_Store_Since (sB sO : Nat) (n : Int) (W : World) (R : List Own) (Φ : PW) (J : Value → World → Prop) : Prop :=
  ∀ w0 R1, Ctx W w0 (R ++ R1) Φ → ∃ (n2 : Int), ((!decide (n < 0)) = true → w0.cell? (Addr.mk sB (sO + 2) none) = some (.int .i64 n2)) ∧ ∃ (n3 : Int), ((!(decide (n < 0) || decide (n2 < n))) = true → w0.cell? (Addr.mk sB (sO + 4) none) = some (.int .i64 n3)) ∧ Br (decide (n < 0) || decide (n2 < n) || decide (n < n3)) (∀ w4 R5, Ctx W w4 (R ++ R5) Φ → J (Value.tuple #[.slice none 0 0, .int .i64 3]) w4) (exI fun (I6 : Option Addr → Nat → Nat → Int → List Own → PW → Nat → Prop) => (∃ R7 Φ8 k9, Stable Φ8 ∧ Wk W R Φ R7 Φ8 ∧ I6 none 0 0 0 R7 Φ8 k9) ∧ ∀ p12 k13 k14 n15 R16 I17 k18, Stable I17 → I6 p12 k13 k14 n15 R16 I17 k18 → ∀ w19 R20, Ctx W w19 (R16 ++ R20) I17 → ∃ p21 k22 k23, w19.cell? (Addr.mk sB (sO + 3) none) = some (.slice p21 k22 k23) ∧ Br (decide (n15 < (↑k22 : Int))) (∀ w24 R25, Ctx W w24 (R16 ++ R25) I17 → ∃ p26 k27 k28, w24.cell? (Addr.mk sB (sO + 3) none) = some (.slice p26 k27
  k28) ∧ (0 ≤ n15 ∧ n15 < (↑k27 : Int)) ∧ ptrK none p26 fun k29 k30 => ∀ w31 R32, Ctx W w31 (R16 ++ R32) I17 → ∃ n33, w31.cell? (Addr.mk k29 (k30 + n15.toNat * 3) none) = some (.int .i64 n33) ∧ Br (decide (n < n33)) (∀ w34 R35, Ctx W w34 (R16 ++ R35) I17 → ∃ p36 k37 k38, w34.cell? (Addr.mk sB (sO + 3) none) = some (.slice p36 k37 k38) ∧ (0 ≤ n15 ∧ n15 < (↑k37 : Int)) ∧ ptrK none p36 fun k39 k40 => ∀ w41 R42, Ctx W w41 (R16 ++ R42) I17 → ∃ n43 s44 s45, RowAt w41 k39 (k40 + n15.toNat * 3) [.int .i64 n43, .string s44, .string s45] ∧ ∀ (k46 : Nat) (w47 : World) (R48 : List Own), Ctx W w47 (Own.blk k46 [.int .i64 n43, .string s44, .string s45] 46 :: R16 ++ R48) I17 → ∃ (p49 : Option Addr) (k50 k51 : Nat) (w52 : World), Sem.run Tryz.prog (builtin Builtin.append #[31, 31] 31 #[false, false] #[.slice p12 k13 k14, .slice (some (Addr.mk k46 0 none)) 1 1]) w47 = .ok (.value (.slice p49 k50 k51)) w52
  ∧ ∃ R53 Φ54, Stable Φ54 ∧ Ctx W w52 (R53 ++ R48) Φ54 ∧ I64 (n15 + 1) ∧ ∃ R55 Φ56 k57, Stable Φ56 ∧ Wk W R53 Φ54 R55 Φ56 ∧ I6 p49 k50 k51 (n15 + 1) R55 Φ56 k57 ∧ k57 < k18) (I64 (n15 + 1) ∧ ∃ R60 Φ61 k62, Stable Φ61 ∧ Wk W R16 I17 R60 Φ61 ∧ I6 p12 k13 k14 (n15 + 1) R60 Φ61 k62 ∧ k62 < k18)) (∀ w65 R66, Ctx W w65 (R16 ++ R66) I17 → J (Value.tuple #[.slice p12 k13 k14, .int .i64 0]) w65))
theorem Berrataref29_Store_Since_run (sB sO : Nat) (n : Int) {W w : World} {R : List Own} {Φ : PW} [Stable Φ] {J : Value → World → Prop} (c : Ctx W w R Φ) (h : Berrataref29_Store_Since sB sO n W R Φ J) : Calls Tryz.prog F.errataref29_Store_Since #[.pointer (some ⟨sB, sO, none⟩), .int .i64 n] w fun e w' => ∃ v, e = .returned v ∧ J v w' :=
  vcFS_sound (H := { keep := some [0, 1, 4, 5, 6, 7, 25, 32, 44], loops := [(5, [(6, .one (.slice)), (7, .one (.int .i64))], [])] }) (by rw [show vcFS Tryz.prog W { keep := some [0, 1, 4, 5, 6, 7, 25, 32, 44], loops := [(5, [(6, .one (.slice)), (7, .one (.int .i64))], [])] } F.errataref29_Store_Since #[.pointer (some ⟨sB, sO, none⟩), .int .i64 n] R Φ J = Berrataref29_Store_Since sB sO n W R Φ J by kernel_rfl]; exact h) c
def Berrataref29_SameChanges (aP : Option Addr) (aN aC : Nat) (bP : Option Addr) (bN bC : Nat) (W : World) (R : List Own) (Φ : PW) (J : Value → World → Prop) : Prop :=
  Br (decide ((↑aN : Int) ≠ (↑bN : Int))) (∀ w0 R1, Ctx W w0 (R ++ R1) Φ → J (.bool false) w0) (exI fun (I2 : Int → List Own → PW → Nat → Prop) => (∃ R3 Φ4 k5, Stable Φ4 ∧ Wk W R Φ R3 Φ4 ∧ I2 0 R3 Φ4 k5) ∧ ∀ n8 R9 I10 k11, Stable I10 → I2 n8 R9 I10 k11 → Br (decide (n8 < (↑aN : Int))) (∀ w12 R13, Ctx W w12 (R9 ++ R13) I10 → (0 ≤ n8 ∧ n8 < (↑aN : Int)) ∧ ptrK none aP fun k14 k15 => ∃ n16 s17 s18, RowAt w12 k14 (k15 + n8.toNat * 3) [.int .i64 n16, .string s17, .string s18] ∧ (0 ≤ n8 ∧ n8 < (↑bN : Int)) ∧ ptrK none bP fun k19 k20 => ∃ n21 s22 s23, RowAt w12 k19 (k20 + n8.toNat * 3) [.int .i64 n21, .string s22, .string s23] ∧ okAgg Tryz.prog 46 = true ∧ Br (!(decide (n16 = n21) && (decide (s17 = s22) && (decide (s18 = s23) && true)))) (∀ w24 R25, Ctx W w24 (R9 ++ R25) I10 → J (.bool false) w24) (I64 (n8 + 1) ∧ ∃ R26 Φ27 k28, Stable Φ27 ∧ Wk W R9 I10 R26 Φ27 ∧ I2 (n8 + 1) R26 Φ27 k28 ∧ k28 <
  k11)) (∀ w31 R32, Ctx W w31 (R9 ++ R32) I10 → J (.bool true) w31))
theorem Berrataref29_SameChanges_run (aP : Option Addr) (aN aC : Nat) (bP : Option Addr) (bN bC : Nat) {W w : World} {R : List Own} {Φ : PW} [Stable Φ] {J : Value → World → Prop} (c : Ctx W w R Φ) (h : Berrataref29_SameChanges aP aN aC bP bN bC W R Φ J) : Calls Tryz.prog F.errataref29_SameChanges #[.slice aP aN aC, .slice bP bN bC] w fun e w' => ∃ v, e = .returned v ∧ J v w' :=
  vcFS_sound (H := { keep := some [0, 1, 4, 5, 10, 14, 25], loops := [(4, [(5, .one (.int .i64))], [])] }) (by rw [show vcFS Tryz.prog W { keep := some [0, 1, 4, 5, 10, 14, 25], loops := [(4, [(5, .one (.int .i64))], [])] } F.errataref29_SameChanges #[.slice aP aN aC, .slice bP bN bC] R Φ J = Berrataref29_SameChanges aP aN aC bP bN bC W R Φ J by kernel_rfl]; exact h) c
def Berrataref29_Store_Scan (sB sO : Nat) (prefixx : ByteArray) (W : World) (R : List Own) (Φ : PW) (J : Value → World → Prop) : Prop :=
  ∀ w0 R1, Ctx W w0 (R ++ R1) Φ → Calls Tryz.prog F.errataref29_Store_All #[.pointer (some (Addr.mk sB sO none))] w0 fun e2 w3 => ∃ p4 k5 k6, e2 = .returned (.slice p4 k5 k6) ∧ ∃ R7 Φ8, Stable Φ8 ∧ Ctx W w3 (R7 ++ R1) Φ8 ∧ exI fun (I9 : Option Addr → Nat → Nat → Int → List Own → PW → Nat → Prop) => (∃ R10 Φ11 k12, Stable Φ11 ∧ Wk W R7 Φ8 R10 Φ11 ∧ I9 none 0 0 0 R10 Φ11 k12) ∧ ∀ p15 k16 k17 n18 R19 I20 k21, Stable I20 → I9 p15 k16 k17 n18 R19 I20 k21 → Br (decide (n18 < (↑k5 : Int))) (∀ w22 R23, Ctx W w22 (R19 ++ R23) I20 → (0 ≤ n18 ∧ n18 < (↑k5 : Int)) ∧ ptrK none p4 fun k24 k25 => ∃ s26, w22.cell? (Addr.mk k24 (k25 + n18.toNat * 2) none) = some (.string s26) ∧ (decide ((↑prefixx.size : Int) ≤ (↑s26.size : Int)) = true → 0 ≤ n18 ∧ n18 < (↑k5 : Int)) ∧ ptrK (some (decide ((↑prefixx.size : Int) ≤ (↑s26.size : Int)))) p4 fun k27 k28 => ∃ (s29 : ByteArray), (decide ((↑prefixx.size : Int) ≤
  (↑s26.size : Int)) = true → w22.cell? (Addr.mk k27 (k28 + n18.toNat * 2) none) = some (.string s29)) ∧ (decide ((↑prefixx.size : Int) ≤ (↑s26.size : Int)) = true → 0 ≤ n18 ∧ n18 < (↑k5 : Int)) ∧ ptrK (some (decide ((↑prefixx.size : Int) ≤ (↑s26.size : Int)))) p4 fun k30 k31 => ∃ (s32 : ByteArray), (decide ((↑prefixx.size : Int) ≤ (↑s26.size : Int)) = true → w22.cell? (Addr.mk k30 (k31 + n18.toNat * 2) none) = some (.string s32)) ∧ (decide ((↑prefixx.size : Int) ≤ (↑s26.size : Int)) = true → 0 ≤ min (↑prefixx.size : Int) (↑s32.size : Int) ∧ min (↑prefixx.size : Int) (↑s32.size : Int) ≤ (↑s29.size : Int)) ∧ Br (decide ((↑prefixx.size : Int) ≤ (↑s26.size : Int)) && decide (s29.extract 0 (min (↑prefixx.size : Int) (↑s32.size : Int)).toNat = prefixx)) ((0 ≤ n18 ∧ n18 < (↑k5 : Int)) ∧ ptrK none p4 fun k33 k34 => ∀ w35 R36, Ctx W w35 (R19 ++ R36) I20 → ∃ s37 s38, RowAt w35 k33 (k34 + n18.toNat
  * 2) [.string s37, .string s38] ∧ ∀ (k39 : Nat) (w40 : World) (R41 : List Own), Ctx W w40 (Own.blk k39 [.string s37, .string s38] 69 :: R19 ++ R41) I20 → ∃ (p42 : Option Addr) (k43 k44 : Nat) (w45 : World), Sem.run Tryz.prog (builtin Builtin.append #[48, 48] 48 #[false, false] #[.slice p15 k16 k17, .slice (some (Addr.mk k39 0 none)) 1 1]) w40 = .ok (.value (.slice p42 k43 k44)) w45 ∧ ∃ R46 Φ47, Stable Φ47 ∧ Ctx W w45 (R46 ++ R41) Φ47 ∧ I64 (n18 + 1) ∧ ∃ R48 Φ49 k50, Stable Φ49 ∧ Wk W R46 Φ47 R48 Φ49 ∧ I9 p42 k43 k44 (n18 + 1) R48 Φ49 k50 ∧ k50 < k21) (I64 (n18 + 1) ∧ ∃ R53 Φ54 k55, Stable Φ54 ∧ Wk W R19 I20 R53 Φ54 ∧ I9 p15 k16 k17 (n18 + 1) R53 Φ54 k55 ∧ k55 < k21)) (∀ w58 R59, Ctx W w58 (R19 ++ R59) I20 → J (.slice p15 k16 k17) w58)
theorem Berrataref29_Store_Scan_run (sB sO : Nat) (prefixx : ByteArray) {W w : World} {R : List Own} {Φ : PW} [Stable Φ] {J : Value → World → Prop} (c : Ctx W w R Φ) (h : Berrataref29_Store_Scan sB sO prefixx W R Φ J) : Calls Tryz.prog F.errataref29_Store_Scan #[.pointer (some ⟨sB, sO, none⟩), .string prefixx] w fun e w' => ∃ v, e = .returned v ∧ J v w' :=
  vcFS_sound (H := { keep := some [0, 1, 4, 5, 6, 7, 13, 43], loops := [(4, [(5, .one (.slice)), (7, .one (.int .i64))], [])] }) (by rw [show vcFS Tryz.prog W { keep := some [0, 1, 4, 5, 6, 7, 13, 43], loops := [(4, [(5, .one (.slice)), (7, .one (.int .i64))], [])] } F.errataref29_Store_Scan #[.pointer (some ⟨sB, sO, none⟩), .string prefixx] R Φ J = Berrataref29_Store_Scan sB sO prefixx W R Φ J by kernel_rfl]; exact h) c
def Berrataref29_Store_All (sB sO : Nat) (W : World) (R : List Own) (Φ : PW) (J : Value → World → Prop) : Prop :=
  ∀ w0 R1, Ctx W w0 (R ++ R1) Φ → ∃ p2 k3 k4, w0.cell? (Addr.mk sB sO none) = some (.slice p2 k3 k4) ∧ exI fun (I5 : Option Addr → Nat → Nat → Int → List Own → PW → Nat → Prop) => (∃ R6 Φ7 k8, Stable Φ7 ∧ Wk W R Φ R6 Φ7 ∧ I5 p2 k3 k4 0 R6 Φ7 k8) ∧ ∀ p11 k12 k13 n14 R15 I16 k17, Stable I16 → I5 p11 k12 k13 n14 R15 I16 k17 → ∀ w18 R19, Ctx W w18 (R15 ++ R19) I16 → ∃ p20 k21 k22, w18.cell? (Addr.mk sB (sO + 1) none) = some (.slice p20 k21 k22) ∧ Br (decide (n14 < (↑k21 : Int))) (exI fun (I23 : Option Addr → Nat → Nat → Int → List Own → PW → Nat → Prop) => (∃ R24 Φ25 k26, Stable Φ25 ∧ Wk W R15 I16 R24 Φ25 ∧ I23 p11 k12 k13 0 R24 Φ25 k26) ∧ ∀ p29 k30 k31 n32 R33 I34 k35, Stable I34 → I23 p29 k30 k31 n32 R33 I34 k35 → ∀ w36 R37, Ctx W w36 (R33 ++ R37) I34 → ∃ p38 k39 k40, w36.cell? (Addr.mk sB (sO + 1) none) = some (.slice p38 k39 k40) ∧ (0 ≤ n14 ∧ n14 < (↑k39 : Int)) ∧ ptrK none p38 fun k41
  k42 => ∀ w43 R44, Ctx W w43 (R33 ++ R44) I34 → ∃ p45 k46 k47, w43.cell? (Addr.mk k41 (k42 + n14.toNat) none) = some (.slice p45 k46 k47) ∧ Br (decide (n32 < (↑k46 : Int))) (∀ w48 R49, Ctx W w48 (R33 ++ R49) I34 → ∃ p50 k51 k52, w48.cell? (Addr.mk sB (sO + 1) none) = some (.slice p50 k51 k52) ∧ (0 ≤ n14 ∧ n14 < (↑k51 : Int)) ∧ ptrK none p50 fun k53 k54 => ∀ w55 R56, Ctx W w55 (R33 ++ R56) I34 → ∃ p57 k58 k59, w55.cell? (Addr.mk k53 (k54 + n14.toNat) none) = some (.slice p57 k58 k59) ∧ (0 ≤ n32 ∧ n32 < (↑k58 : Int)) ∧ ptrK none p57 fun k60 k61 => ∀ w62 R63, Ctx W w62 (R33 ++ R63) I34 → ∃ p64 k65 k66, w62.cell? (Addr.mk k60 (k61 + n32.toNat) none) = some (.slice p64 k65 k66) ∧ ∀ w67 R68, Ctx W w67 (R33 ++ R68) I34 → Calls Tryz.prog F.errataref29_merge #[.slice p29 k30 k31, .slice p64 k65 k66] w67 fun e69 w70 => ∃ p71 k72 k73, e69 = .returned (.slice p71 k72 k73) ∧ ∃ R74 Φ75, Stable Φ75 ∧
  Ctx W w70 (R74 ++ R68) Φ75 ∧ I64 (n32 + 1) ∧ ∃ R76 Φ77 k78, Stable Φ77 ∧ Wk W R74 Φ75 R76 Φ77 ∧ I23 p71 k72 k73 (n32 + 1) R76 Φ77 k78 ∧ k78 < k35) (I64 (n14 + 1) ∧ ∃ R81 Φ82 k83, Stable Φ82 ∧ Wk W R33 I34 R81 Φ82 ∧ I5 p29 k30 k31 (n14 + 1) R81 Φ82 k83 ∧ k83 < k17)) (∀ w86 R87, Ctx W w86 (R15 ++ R87) I16 → Calls Tryz.prog F.errataref29_there #[.slice p11 k12 k13] w86 fun e88 w89 => ∃ p90 k91 k92, e88 = .returned (.slice p90 k91 k92) ∧ ∃ R93 Φ94, Stable Φ94 ∧ Ctx W w89 (R93 ++ R87) Φ94 ∧ ∀ w95 R96, Ctx W w95 (R93 ++ R96) Φ94 → J (.slice p90 k91 k92) w95)
theorem Berrataref29_Store_All_run (sB sO : Nat) {W w : World} {R : List Own} {Φ : PW} [Stable Φ] {J : Value → World → Prop} (c : Ctx W w R Φ) (h : Berrataref29_Store_All sB sO W R Φ J) : Calls Tryz.prog F.errataref29_Store_All #[.pointer (some ⟨sB, sO, none⟩)] w fun e w' => ∃ v, e = .returned v ∧ J v w' :=
  vcFS_sound (H := { keep := some [0, 2, 3, 4, 5, 16, 28], loops := [(6, [(3, .one (.slice)), (5, .one (.int .i64))], []), (3, [(3, .one (.slice)), (4, .one (.int .i64))], [])] }) (by rw [show vcFS Tryz.prog W { keep := some [0, 2, 3, 4, 5, 16, 28], loops := [(6, [(3, .one (.slice)), (5, .one (.int .i64))], []), (3, [(3, .one (.slice)), (4, .one (.int .i64))], [])] } F.errataref29_Store_All #[.pointer (some ⟨sB, sO, none⟩)] R Φ J = Berrataref29_Store_All sB sO W R Φ J by kernel_rfl]; exact h) c
def Berrataref29_Store_Snapshot (sB sO : Nat) (W : World) (R : List Own) (Φ : PW) (J : Value → World → Prop) : Prop :=
  ∀ w0 R1, Ctx W w0 (R ++ R1) Φ → Calls Tryz.prog F.errataref29_Store_All #[.pointer (some (Addr.mk sB sO none))] w0 fun e2 w3 => ∃ p4 k5 k6, e2 = .returned (.slice p4 k5 k6) ∧ ∃ R7 Φ8, Stable Φ8 ∧ Ctx W w3 (R7 ++ R1) Φ8 ∧ ∀ w9 R10, Ctx W w9 (R7 ++ R10) Φ8 → ∃ n11, w9.cell? (Addr.mk sB (sO + 2) none) = some (.int .i64 n11) ∧ ∀ w12 R13, Ctx W w12 (R7 ++ R13) Φ8 → Calls Tryz.prog F.errataref01_Int #[.int .i64 n11] w12 fun e14 w15 => ∃ s16, e14 = .returned (.string s16) ∧ ∃ R17 Φ18, Stable Φ18 ∧ Ctx W w15 (R17 ++ R13) Φ18 ∧ ∀ w19 R20, Ctx W w19 (R17 ++ R20) Φ18 → Calls Tryz.prog F.errataref01_Num #[.int .i64 (↑k5 : Int)] w19 fun e21 w22 => ∃ s23, e21 = .returned (.string s23) ∧ ∃ R24 Φ25, Stable Φ25 ∧ Ctx W w22 (R24 ++ R20) Φ25 ∧ (s16.size + s23.size).le 9223372036854775807 ∧ exI fun (I26 : ByteArray → Int → List Own → PW → Nat → Prop) => (∃ R27 Φ28 k29, Stable Φ28 ∧ Wk W R24 Φ25 R27 Φ28 ∧
  I26 (s16 ++ s23) 0 R27 Φ28 k29) ∧ ∀ s32 n33 R34 I35 k36, Stable I35 → I26 s32 n33 R34 I35 k36 → Br (decide (n33 < (↑k5 : Int))) (∃ R37 Φ38, Stable Φ38 ∧ Wk W R34 I35 R37 Φ38 ∧ (0 ≤ n33 ∧ n33 < (↑k5 : Int)) ∧ ptrK none p4 fun k41 k42 => (0 ≤ n33 ∧ n33 < (↑k5 : Int)) ∧ ptrK none p4 fun k43 k44 => ∃ (s45 : ByteArray), (∀ w46 R47, Ctx W w46 (R37 ++ R47) Φ38 → ∃ s48, w46.cell? (Addr.mk k41 (k42 + n33.toNat * 2) none) = some (.string s48) ∧ Value.string s48 = Value.string s45) ∧ ∃ (s49 : ByteArray), (∀ w50 R51, Ctx W w50 (R37 ++ R51) Φ38 → ∃ s52, w50.cell? (Addr.mk k43 (k44 + n33.toNat * 2 + 1) none) = some (.string s52) ∧ Value.string s52 = Value.string s49) ∧ ∀ w53 R54, Ctx W w53 (R34 ++ R54) I35 → Calls Tryz.prog F.errataref01_Text #[.string s45] w53 fun e55 w56 => ∃ s57, e55 = .returned (.string s57) ∧ ∃ R58 Φ59, Stable Φ59 ∧ Ctx W w56 (R58 ++ R54) Φ59 ∧ Wk W R58 Φ59 R37 Φ38 ∧ (s32.size +
  s57.size).le 9223372036854775807 ∧ ∀ w62 R63, Ctx W w62 (R58 ++ R63) Φ59 → Calls Tryz.prog F.errataref01_Text #[.string s49] w62 fun e64 w65 => ∃ s66, e64 = .returned (.string s66) ∧ ∃ R67 Φ68, Stable Φ68 ∧ Ctx W w65 (R67 ++ R63) Φ68 ∧ Wk W R67 Φ68 R37 Φ38 ∧ ((s32 ++ s57).size + s66.size).le 9223372036854775807 ∧ I64 (n33 + 1) ∧ ∃ R71 Φ72 k73, Stable Φ72 ∧ Wk W R67 Φ68 R71 Φ72 ∧ I26 (s32 ++ s57 ++ s66) (n33 + 1) R71 Φ72 k73 ∧ k73 < k36) (∀ w76 R77, Ctx W w76 (R34 ++ R77) I35 → J (.string s32) w76)
theorem Berrataref29_Store_Snapshot_run (sB sO : Nat) {W w : World} {R : List Own} {Φ : PW} [Stable Φ] {J : Value → World → Prop} (c : Ctx W w R Φ) (h : Berrataref29_Store_Snapshot sB sO W R Φ J) : Calls Tryz.prog F.errataref29_Store_Snapshot #[.pointer (some ⟨sB, sO, none⟩)] w fun e w' => ∃ v, e = .returned v ∧ J v w' :=
  vcFS_sound (H := { keep := some [0, 2, 3, 4, 5, 20], stages := [(6, [.held [(0, true), (1, true), (2, true), (8, true), (9, true), (3, true), (10, true), (4, true), (11, true), (5, true), (12, true), (6, false), (7, true), (13, false)], .stage [14, 15] none])], loops := [(4, [(4, .one (.str)), (5, .one (.int .i64))], [])] }) (by rw [show vcFS Tryz.prog W { keep := some [0, 2, 3, 4, 5, 20], stages := [(6, [.held [(0, true), (1, true), (2, true), (8, true), (9, true), (3, true), (10, true), (4, true), (11, true), (5, true), (12, true), (6, false), (7, true), (13, false)], .stage [14, 15] none])], loops := [(4, [(4, .one (.str)), (5, .one (.int .i64))], [])] } F.errataref29_Store_Snapshot #[.pointer (some ⟨sB, sO, none⟩)] R Φ J = Berrataref29_Store_Snapshot sB sO W R Φ J by kernel_rfl]; exact h) c
def Berrataref01_Open (s : ByteArray) (W : World) (R : List Own) (Φ : PW) (J : Value → World → Prop) : Prop :=
  ∀ (k0 : Nat) (w1 : World) (R2 : List Own), Ctx W w1 (Own.blk k0 [.string s, .bool false] 112 :: R ++ R2) Φ → J (.pointer (some (Addr.mk k0 0 none))) w1
theorem Berrataref01_Open_run (s : ByteArray) {W w : World} {R : List Own} {Φ : PW} [Stable Φ] {J : Value → World → Prop} (c : Ctx W w R Φ) (h : Berrataref01_Open s W R Φ J) : Calls Tryz.prog F.errataref01_Open #[.string s] w fun e w' => ∃ v, e = .returned v ∧ J v w' :=
  vcFS_sound (H := { keep := some [0, 2] }) (by rw [show vcFS Tryz.prog W { keep := some [0, 2] } F.errataref01_Open #[.string s] R Φ J = Berrataref01_Open s W R Φ J by kernel_rfl]; exact h) c
def Berrataref01_Reader_Int (rB rO : Nat) (W : World) (R : List Own) (Φ : PW) (J : Value → World → Prop) : Prop :=
  ∀ w0 R1, Ctx W w0 (R ++ R1) Φ → Calls Tryz.prog F.errataref01_Reader_ahead #[.pointer (some (Addr.mk rB rO none)), .int IntKind.u8 59] w0 fun e2 w3 => ∃ n4, e2 = .returned (.int .i64 n4) ∧ ∃ R5 Φ6, Stable Φ6 ∧ Ctx W w3 (R5 ++ R1) Φ6 ∧ ∀ w7 R8, Ctx W w7 (R5 ++ R8) Φ6 → J (.int .i64 n4) w7
theorem Berrataref01_Reader_Int_run (rB rO : Nat) {W w : World} {R : List Own} {Φ : PW} [Stable Φ] {J : Value → World → Prop} (c : Ctx W w R Φ) (h : Berrataref01_Reader_Int rB rO W R Φ J) : Calls Tryz.prog F.errataref01_Reader_Int #[.pointer (some ⟨rB, rO, none⟩)] w fun e w' => ∃ v, e = .returned v ∧ J v w' :=
  vcFS_sound (H := { keep := some [0, 2] }) (by rw [show vcFS Tryz.prog W { keep := some [0, 2] } F.errataref01_Reader_Int #[.pointer (some ⟨rB, rO, none⟩)] R Φ J = Berrataref01_Reader_Int rB rO W R Φ J by kernel_rfl]; exact h) c
def Berrataref01_Reader_Num (rB rO : Nat) (W : World) (R : List Own) (Φ : PW) (J : Value → World → Prop) : Prop :=
  ∀ w0 R1, Ctx W w0 (R ++ R1) Φ → Calls Tryz.prog F.errataref01_Reader_number #[.pointer (some (Addr.mk rB rO none)), .int IntKind.u8 59] w0 fun e2 w3 => ∃ n4, e2 = .returned (.int .i64 n4) ∧ ∃ R5 Φ6, Stable Φ6 ∧ Ctx W w3 (R5 ++ R1) Φ6 ∧ ∀ w7 R8, Ctx W w7 (R5 ++ R8) Φ6 → J (.int .i64 n4) w7
theorem Berrataref01_Reader_Num_run (rB rO : Nat) {W w : World} {R : List Own} {Φ : PW} [Stable Φ] {J : Value → World → Prop} (c : Ctx W w R Φ) (h : Berrataref01_Reader_Num rB rO W R Φ J) : Calls Tryz.prog F.errataref01_Reader_Num #[.pointer (some ⟨rB, rO, none⟩)] w fun e w' => ∃ v, e = .returned v ∧ J v w' :=
  vcFS_sound (H := { keep := some [0, 2] }) (by rw [show vcFS Tryz.prog W { keep := some [0, 2] } F.errataref01_Reader_Num #[.pointer (some ⟨rB, rO, none⟩)] R Φ J = Berrataref01_Reader_Num rB rO W R Φ J by kernel_rfl]; exact h) c
def Berrataref01_Reader_Left (rB rO : Nat) (W : World) (R : List Own) (Φ : PW) (J : Value → World → Prop) : Prop :=
  ∀ w0 R1, Ctx W w0 (R ++ R1) Φ → ∃ s2, w0.cell? (Addr.mk rB rO none) = some (.string s2) ∧ ∀ w3 R4, Ctx W w3 (R ++ R4) Φ → J (.int .i64 (↑s2.size : Int)) w3
theorem Berrataref01_Reader_Left_run (rB rO : Nat) {W w : World} {R : List Own} {Φ : PW} [Stable Φ] {J : Value → World → Prop} (c : Ctx W w R Φ) (h : Berrataref01_Reader_Left rB rO W R Φ J) : Calls Tryz.prog F.errataref01_Reader_Left #[.pointer (some ⟨rB, rO, none⟩)] w fun e w' => ∃ v, e = .returned v ∧ J v w' :=
  vcFS_sound (H := { keep := some [0, 2] }) (by rw [show vcFS Tryz.prog W { keep := some [0, 2] } F.errataref01_Reader_Left #[.pointer (some ⟨rB, rO, none⟩)] R Φ J = Berrataref01_Reader_Left rB rO W R Φ J by kernel_rfl]; exact h) c
def Berrataref01_Reader_Text (rB rO : Nat) (W : World) (R : List Own) (Φ : PW) (J : Value → World → Prop) : Prop :=
  ∀ w0 R1, Ctx W w0 (R ++ R1) Φ → Calls Tryz.prog F.errataref01_Reader_number #[.pointer (some (Addr.mk rB rO none)), .int IntKind.u8 58] w0 fun e2 w3 => ∃ n4, e2 = .returned (.int .i64 n4) ∧ ∃ R5 Φ6, Stable Φ6 ∧ Ctx W w3 (R5 ++ R1) Φ6 ∧ ∀ w7 R8, Ctx W w7 (R5 ++ R8) Φ6 → ∃ c9, w7.cell? (Addr.mk rB (rO + 1) none) = some (.bool c9) ∧ ∃ (s10 : ByteArray), ((!c9) = true → w7.cell? (Addr.mk rB rO none) = some (.string s10)) ∧ Br (c9 || decide ((↑s10.size : Int) ≤ n4)) (∀ w11 R12, Ctx W w11 (R5 ++ R12) Φ6 → Calls Tryz.prog F.errataref01_Reader_fail #[.pointer (some (Addr.mk rB rO none))] w11 fun e13 w14 => ∃ n15, e13 = .returned (.int .i64 n15) ∧ ∃ R16 Φ17, Stable Φ17 ∧ Ctx W w14 (R16 ++ R12) Φ17 ∧ ∀ w18 R19, Ctx W w18 (R16 ++ R19) Φ17 → J (.string (ByteArray.mk #[])) w18) (∀ w20 R21, Ctx W w20 (R5 ++ R21) Φ6 → ∃ s22, w20.cell? (Addr.mk rB rO none) = some (.string s22) ∧ (0 ≤ n4 ∧ n4 ≤
  (↑s22.size : Int)) ∧ ∀ w23 R24, Ctx W w23 (R5 ++ R24) Φ6 → ∃ s25, w23.cell? (Addr.mk rB rO none) = some (.string s25) ∧ (0 ≤ n4 ∧ n4 ≤ (↑s25.size : Int) ∧ s25.size ≤ s25.size) ∧ ∀ w26 R27, Ctx W w26 (R5 ++ R27) Φ6 → CanWrite w26 rB rO 1 ∧ ∀ (w28 : World), w28 = w26.setCell (Addr.mk rB rO none) (Value.string (s25.extract n4.toNat s25.size)) → ∃ R29 Φ30, Stable Φ30 ∧ Ctx W w28 (R29 ++ R27) Φ30 ∧ ∀ w31 R32, Ctx W w31 (R29 ++ R32) Φ30 → Calls Tryz.prog F.errataref01_Reader_close #[.pointer (some (Addr.mk rB rO none)), .int IntKind.u8 44] w31 fun e33 w34 => ∃ c35, e33 = .returned (.bool c35) ∧ ∃ R36 Φ37, Stable Φ37 ∧ Ctx W w34 (R36 ++ R32) Φ37 ∧ Br (!c35) (∀ w38 R39, Ctx W w38 (R36 ++ R39) Φ37 → J (.string (ByteArray.mk #[])) w38) (∀ w40 R41, Ctx W w40 (R36 ++ R41) Φ37 → J (.string (s22.extract 0 n4.toNat)) w40))
theorem Berrataref01_Reader_Text_run (rB rO : Nat) {W w : World} {R : List Own} {Φ : PW} [Stable Φ] {J : Value → World → Prop} (c : Ctx W w R Φ) (h : Berrataref01_Reader_Text rB rO W R Φ J) : Calls Tryz.prog F.errataref01_Reader_Text #[.pointer (some ⟨rB, rO, none⟩)] w fun e w' => ∃ v, e = .returned v ∧ J v w' :=
  vcFS_sound (H := { keep := some [0, 2, 3, 4, 19, 39] }) (by rw [show vcFS Tryz.prog W { keep := some [0, 2, 3, 4, 19, 39] } F.errataref01_Reader_Text #[.pointer (some ⟨rB, rO, none⟩)] R Φ J = Berrataref01_Reader_Text rB rO W R Φ J by kernel_rfl]; exact h) c
def Berrataref01_Reader_Done (rB rO : Nat) (W : World) (R : List Own) (Φ : PW) (J : Value → World → Prop) : Prop :=
  ∀ w0 R1, Ctx W w0 (R ++ R1) Φ → ∃ c2, w0.cell? (Addr.mk rB (rO + 1) none) = some (.bool c2) ∧ ∃ (s3 : ByteArray), ((!c2) = true → w0.cell? (Addr.mk rB rO none) = some (.string s3)) ∧ ∀ w4 R5, Ctx W w4 (R ++ R5) Φ → J (.bool (!c2 && decide (s3 = ByteArray.mk #[]))) w4
theorem Berrataref01_Reader_Done_run (rB rO : Nat) {W w : World} {R : List Own} {Φ : PW} [Stable Φ] {J : Value → World → Prop} (c : Ctx W w R Φ) (h : Berrataref01_Reader_Done rB rO W R Φ J) : Calls Tryz.prog F.errataref01_Reader_Done #[.pointer (some ⟨rB, rO, none⟩)] w fun e w' => ∃ v, e = .returned v ∧ J v w' :=
  vcFS_sound (H := { keep := some [0, 2] }) (by rw [show vcFS Tryz.prog W { keep := some [0, 2] } F.errataref01_Reader_Done #[.pointer (some ⟨rB, rO, none⟩)] R Φ J = Berrataref01_Reader_Done rB rO W R Φ J by kernel_rfl]; exact h) c
def Berrataref29_Store_add (sB sO : Nat) (level : Int) (runP : Option Addr) (runN runC : Nat) (W : World) (R : List Own) (Φ : PW) (J : Value → World → Prop) : Prop :=
  exI fun (I0 : List Own → PW → Nat → Prop) => (∃ R1 Φ2 k3, Stable Φ2 ∧ Wk W R Φ R1 Φ2 ∧ I0 R1 Φ2 k3) ∧ ∀ R6 I7 k8, Stable I7 → I0 R6 I7 k8 → ∀ w9 R10, Ctx W w9 (R6 ++ R10) I7 → ∃ p11 k12 k13, w9.cell? (Addr.mk sB (sO + 1) none) = some (.slice p11 k12 k13) ∧ Br (decide ((↑k12 : Int) ≤ level)) (∀ w14 R15, Ctx W w14 (R6 ++ R15) I7 → ∃ p16 k17 k18, w14.cell? (Addr.mk sB (sO + 1) none) = some (.slice p16 k17 k18) ∧ ∀ (k19 : Nat) (w20 : World) (R21 : List Own), Ctx W w20 (Own.blk k19 [.slice none 0 0] 103 :: R6 ++ R21) I7 → ∃ (p22 : Option Addr) (k23 k24 : Nat) (w25 : World), Sem.run Tryz.prog (builtin Builtin.append #[58, 58] 58 #[false, false] #[.slice p16 k17 k18, .slice (some (Addr.mk k19 0 none)) 1 1]) w20 = .ok (.value (.slice p22 k23 k24)) w25 ∧ ∃ R26 Φ27, Stable Φ27 ∧ Ctx W w25 (R26 ++ R21) Φ27 ∧ ∀ w28 R29, Ctx W w28 (R26 ++ R29) Φ27 → CanWrite w28 sB (sO + 1) 1 ∧ ∀ (w30 : World), w30
  = w28.setCell (Addr.mk sB (sO + 1) none) (Value.slice p22 k23 k24) → ∃ R31 Φ32, Stable Φ32 ∧ Ctx W w30 (R31 ++ R29) Φ32 ∧ ∃ R33 Φ34 k35, Stable Φ34 ∧ Wk W R31 Φ32 R33 Φ34 ∧ I0 R33 Φ34 k35 ∧ k35 < k8) (Br (decide (0 < (↑runN : Int))) (∃ R38 Φ39, Stable Φ39 ∧ Wk W R6 I7 R38 Φ39 ∧ ∃ (p42 : Option Addr) (k43 k44 : Nat), (∀ w45 R46, Ctx W w45 (R38 ++ R46) Φ39 → ∃ p47 k48 k49, w45.cell? (Addr.mk sB (sO + 1) none) = some (.slice p47 k48 k49) ∧ Value.slice p47 k48 k49 = Value.slice p42 k43 k44) ∧ ∃ (p50 : Option Addr) (k51 k52 : Nat), (∀ w53 R54, Ctx W w53 (R38 ++ R54) Φ39 → ∃ p55 k56 k57, w53.cell? (Addr.mk sB (sO + 1) none) = some (.slice p55 k56 k57) ∧ Value.slice p55 k56 k57 = Value.slice p50 k51 k52) ∧ (0 ≤ level ∧ level < (↑k51 : Int)) ∧ ptrK none p50 fun k58 k59 => ∃ (p60 : Option Addr) (k61 k62 : Nat), (∀ w63 R64, Ctx W w63 (R38 ++ R64) Φ39 → ∃ p65 k66 k67, w63.cell? (Addr.mk k58 (k59 +
  level.toNat) none) = some (.slice p65 k66 k67) ∧ Value.slice p65 k66 k67 = Value.slice p60 k61 k62) ∧ ∀ (k68 : Nat), Wk W (Own.blk k68 [.slice runP runN runC] 48 :: R6) I7 (R38) Φ39 ∧ ∀ w71 R72, Ctx W w71 (Own.blk k68 [.slice runP runN runC] 48 :: R6 ++ R72) I7 → ∃ (p73 : Option Addr) (k74 k75 : Nat) (w76 : World), Sem.run Tryz.prog (builtin Builtin.append #[103, 103] 103 #[false, false] #[.slice (some (Addr.mk k68 0 none)) 1 1, .slice p60 k61 k62]) w71 = .ok (.value (.slice p73 k74 k75)) w76 ∧ ∃ R77 Φ78, Stable Φ78 ∧ Ctx W w76 (R77 ++ R72) Φ78 ∧ Wk W R77 Φ78 R38 Φ39 ∧ (0 ≤ level ∧ level < (↑k43 : Int)) ∧ ptrK none p42 fun k81 k82 => ∀ w83 R84, Ctx W w83 (R77 ++ R84) Φ78 → CanWrite w83 k81 (k82 + level.toNat) 1 ∧ ∀ (w85 : World), w85 = w83.setCell (Addr.mk k81 (k82 + level.toNat) none) (Value.slice p73 k74 k75) → ∃ R86 Φ87, Stable Φ87 ∧ Ctx W w85 (R86 ++ R84) Φ87 ∧ ∀ w88 R89, Ctx W w88
  (R86 ++ R89) Φ87 → J (Value.tuple #[]) w88) (∀ w90 R91, Ctx W w90 (R6 ++ R91) I7 → J (Value.tuple #[]) w90))
theorem Berrataref29_Store_add_run (sB sO : Nat) (level : Int) (runP : Option Addr) (runN runC : Nat) {W w : World} {R : List Own} {Φ : PW} [Stable Φ] {J : Value → World → Prop} (c : Ctx W w R Φ) (h : Berrataref29_Store_add sB sO level runP runN runC W R Φ J) : Calls Tryz.prog F.errataref29_Store_add #[.pointer (some ⟨sB, sO, none⟩), .int .i64 level, .slice runP runN runC] w fun e w' => ∃ v, e = .returned v ∧ J v w' :=
  vcFS_sound (H := { keep := some [0, 1, 2, 12, 24], stages := [(3, [.held [(0, true), (4, true), (5, true), (7, true), (11, true), (1, true), (8, true), (2, true), (9, true), (3, true), (10, true), (12, true), (13, true), (6, false), (14, false)], .stage [15] (some 16)])], loops := [(0, [], [])] }) (by rw [show vcFS Tryz.prog W { keep := some [0, 1, 2, 12, 24], stages := [(3, [.held [(0, true), (4, true), (5, true), (7, true), (11, true), (1, true), (8, true), (2, true), (9, true), (3, true), (10, true), (12, true), (13, true), (6, false), (14, false)], .stage [15] (some 16)])], loops := [(0, [], [])] } F.errataref29_Store_add #[.pointer (some ⟨sB, sO, none⟩), .int .i64 level, .slice runP runN runC] R Φ J = Berrataref29_Store_add sB sO level runP runN runC W R Φ J by kernel_rfl]; exact h) c
def Berrataref29_Store_Trim (sB sO : Nat) (n : Int) (W : World) (R : List Own) (Φ : PW) (J : Value → World → Prop) : Prop :=
  ∀ w0 R1, Ctx W w0 (R ++ R1) Φ → ∃ n2, w0.cell? (Addr.mk sB (sO + 4) none) = some (.int .i64 n2) ∧ ∀ w3 R4, Ctx W w3 (R ++ R4) Φ → ∃ n5, w3.cell? (Addr.mk sB (sO + 2) none) = some (.int .i64 n5) ∧ ∀ w6 R7, Ctx W w6 (R ++ R7) Φ → CanWrite w6 sB (sO + 4) 1 ∧ ∀ (w8 : World), w8 = w6.setCell (Addr.mk sB (sO + 4) none) (Value.int IntKind.i64 (max n2 (min n n5))) → ∃ R9 Φ10, Stable Φ10 ∧ Ctx W w8 (R9 ++ R7) Φ10 ∧ exI fun (I11 : Option Addr → Nat → Nat → Int → List Own → PW → Nat → Prop) => (∃ R12 Φ13 k14, Stable Φ13 ∧ Wk W R9 Φ10 R12 Φ13 ∧ I11 none 0 0 0 R12 Φ13 k14) ∧ ∀ p17 k18 k19 n20 R21 I22 k23, Stable I22 → I11 p17 k18 k19 n20 R21 I22 k23 → ∀ w24 R25, Ctx W w24 (R21 ++ R25) I22 → ∃ p26 k27 k28, w24.cell? (Addr.mk sB (sO + 3) none) = some (.slice p26 k27 k28) ∧ Br (decide (n20 < (↑k27 : Int))) (∀ w29 R30, Ctx W w29 (R21 ++ R30) I22 → ∃ p31 k32 k33, w29.cell? (Addr.mk sB (sO + 3) none) =
  some (.slice p31 k32 k33) ∧ (0 ≤ n20 ∧ n20 < (↑k32 : Int)) ∧ ptrK none p31 fun k34 k35 => ∀ w36 R37, Ctx W w36 (R21 ++ R37) I22 → ∃ n38, w36.cell? (Addr.mk k34 (k35 + n20.toNat * 3) none) = some (.int .i64 n38) ∧ Br (decide (n < n38)) (∀ w39 R40, Ctx W w39 (R21 ++ R40) I22 → ∃ p41 k42 k43, w39.cell? (Addr.mk sB (sO + 3) none) = some (.slice p41 k42 k43) ∧ (0 ≤ n20 ∧ n20 < (↑k42 : Int)) ∧ ptrK none p41 fun k44 k45 => ∀ w46 R47, Ctx W w46 (R21 ++ R47) I22 → ∃ n48 s49 s50, RowAt w46 k44 (k45 + n20.toNat * 3) [.int .i64 n48, .string s49, .string s50] ∧ ∀ (k51 : Nat) (w52 : World) (R53 : List Own), Ctx W w52 (Own.blk k51 [.int .i64 n48, .string s49, .string s50] 46 :: R21 ++ R53) I22 → ∃ (p54 : Option Addr) (k55 k56 : Nat) (w57 : World), Sem.run Tryz.prog (builtin Builtin.append #[31, 31] 31 #[false, false] #[.slice p17 k18 k19, .slice (some (Addr.mk k51 0 none)) 1 1]) w52 = .ok (.value
  (.slice p54 k55 k56)) w57 ∧ ∃ R58 Φ59, Stable Φ59 ∧ Ctx W w57 (R58 ++ R53) Φ59 ∧ I64 (n20 + 1) ∧ ∃ R60 Φ61 k62, Stable Φ61 ∧ Wk W R58 Φ59 R60 Φ61 ∧ I11 p54 k55 k56 (n20 + 1) R60 Φ61 k62 ∧ k62 < k23) (I64 (n20 + 1) ∧ ∃ R65 Φ66 k67, Stable Φ66 ∧ Wk W R21 I22 R65 Φ66 ∧ I11 p17 k18 k19 (n20 + 1) R65 Φ66 k67 ∧ k67 < k23)) (∀ w70 R71, Ctx W w70 (R21 ++ R71) I22 → CanWrite w70 sB (sO + 3) 1 ∧ ∀ (w72 : World), w72 = w70.setCell (Addr.mk sB (sO + 3) none) (Value.slice p17 k18 k19) → ∃ R73 Φ74, Stable Φ74 ∧ Ctx W w72 (R73 ++ R71) Φ74 ∧ ∀ w75 R76, Ctx W w75 (R73 ++ R76) Φ74 → J (Value.tuple #[]) w75)
theorem Berrataref29_Store_Trim_run (sB sO : Nat) (n : Int) {W w : World} {R : List Own} {Φ : PW} [Stable Φ] {J : Value → World → Prop} (c : Ctx W w R Φ) (h : Berrataref29_Store_Trim sB sO n W R Φ J) : Calls Tryz.prog F.errataref29_Store_Trim #[.pointer (some ⟨sB, sO, none⟩), .int .i64 n] w fun e w' => ∃ v, e = .returned v ∧ J v w' :=
  vcFS_sound (H := { keep := some [0, 1, 4, 5, 26, 38], stages := [(0, [.stage [0, 1, 5, 6, 2, 7, 3, 8, 4, 9, 10, 11] none, .stage [12] none, .stage [13] (some 14)])], loops := [(3, [(4, .one (.slice)), (5, .one (.int .i64))], [])] }) (by rw [show vcFS Tryz.prog W { keep := some [0, 1, 4, 5, 26, 38], stages := [(0, [.stage [0, 1, 5, 6, 2, 7, 3, 8, 4, 9, 10, 11] none, .stage [12] none, .stage [13] (some 14)])], loops := [(3, [(4, .one (.slice)), (5, .one (.int .i64))], [])] } F.errataref29_Store_Trim #[.pointer (some ⟨sB, sO, none⟩), .int .i64 n] R Φ J = Berrataref29_Store_Trim sB sO n W R Φ J by kernel_rfl]; exact h) c
def Berrataref29_Store_Apply (sB sO : Nat) (c0 : Int) (c1 : ByteArray) (c2 : ByteArray) (W : World) (R : List Own) (Φ : PW) (J : Value → World → Prop) : Prop :=
  ∀ (b : Nat) (w0 : World) (R1 : List Own), Ctx W w0 (R ++ R1) Φ → ∃ n2, w0.cell? (Addr.mk sB (sO + 2) none) = some (.int .i64 n2) ∧ I64 (n2 + 1) ∧ Br (decide (c0 ≠ n2 + 1)) (∀ w3 R4, Ctx W w3 (R ++ R4) Φ → J (.int .i64 25) w3) (∀ w5 R6, Ctx W w5 (R ++ R6) Φ → Calls Tryz.prog F.errataref29_Store_Put #[.pointer (some (Addr.mk sB sO none)), .string c1, .string c2] w5 fun e7 w8 => e7 = .returned (Value.tuple #[]) ∧ ∃ R9 Φ10, Stable Φ10 ∧ Ctx W w8 (R9 ++ R6) Φ10 ∧ ∀ w11 R12, Ctx W w11 (R9 ++ R12) Φ10 → J (.int .i64 0) w11)
theorem Berrataref29_Store_Apply_run (sB sO : Nat) (c0 : Int) (c1 : ByteArray) (c2 : ByteArray) {W w : World} {R : List Own} {Φ : PW} [Stable Φ] {J : Value → World → Prop} (c : Ctx W w R Φ) (h : Berrataref29_Store_Apply sB sO c0 c1 c2 W R Φ J) : Calls Tryz.prog F.errataref29_Store_Apply #[.pointer (some ⟨sB, sO, none⟩), .agg #[.int .i64 c0, .string c1, .string c2]] w fun e w' => ∃ v, e = .returned v ∧ J v w' :=
  vcFS_sound (H := { keep := some [0, 3, 4, 12], track := [3] }) (by rw [show vcFS Tryz.prog W { keep := some [0, 3, 4, 12], track := [3] } F.errataref29_Store_Apply #[.pointer (some ⟨sB, sO, none⟩), .agg #[.int .i64 c0, .string c1, .string c2]] R Φ J = Berrataref29_Store_Apply sB sO c0 c1 c2 W R Φ J by kernel_rfl]; exact h) c
def Berrataref29_Store_Put (sB sO : Nat) (key : ByteArray) (value : ByteArray) (W : World) (R : List Own) (Φ : PW) (J : Value → World → Prop) : Prop :=
  ∀ w0 R1, Ctx W w0 (R ++ R1) Φ → ∃ n2, w0.cell? (Addr.mk sB (sO + 2) none) = some (.int .i64 n2) ∧ I64 (n2 + 1) ∧ ∀ w3 R4, Ctx W w3 (R ++ R4) Φ → CanWrite w3 sB (sO + 2) 1 ∧ ∀ (w5 : World), w5 = w3.setCell (Addr.mk sB (sO + 2) none) (Value.int IntKind.i64 (n2 + 1)) → ∃ R6 Φ7, Stable Φ7 ∧ Ctx W w5 (R6 ++ R4) Φ7 ∧ ∃ R8 Φ9, Stable Φ9 ∧ Wk W R6 Φ7 R8 Φ9 ∧ ∃ (p12 : Option Addr) (k13 k14 : Nat), (∀ w15 R16, Ctx W w15 (R8 ++ R16) Φ9 → ∃ p17 k18 k19, w15.cell? (Addr.mk sB (sO + 3) none) = some (.slice p17 k18 k19) ∧ Value.slice p17 k18 k19 = Value.slice p12 k13 k14) ∧ ∃ (n20 : Int), (∀ w21 R22, Ctx W w21 (R8 ++ R22) Φ9 → ∃ n23, w21.cell? (Addr.mk sB (sO + 2) none) = some (.int .i64 n23) ∧ Value.int IntKind.i64 n23 = Value.int IntKind.i64 n20) ∧ ∀ (k24 : Nat), Wk W (Own.blk k24 [.int .i64 n20, .string key, .string value] 46 :: R6) Φ7 (R8) Φ9 ∧ ∀ w27 R28, Ctx W w27 (Own.blk k24 [.int .i64 n20,
  .string key, .string value] 46 :: R6 ++ R28) Φ7 → ∃ (p29 : Option Addr) (k30 k31 : Nat) (w32 : World), Sem.run Tryz.prog (builtin Builtin.append #[31, 31] 31 #[false, false] #[.slice p12 k13 k14, .slice (some (Addr.mk k24 0 none)) 1 1]) w27 = .ok (.value (.slice p29 k30 k31)) w32 ∧ ∃ R33 Φ34, Stable Φ34 ∧ Ctx W w32 (R33 ++ R28) Φ34 ∧ Wk W R33 Φ34 R8 Φ9 ∧ ∀ w37 R38, Ctx W w37 (R33 ++ R38) Φ34 → CanWrite w37 sB (sO + 3) 1 ∧ ∀ (w39 : World), w39 = w37.setCell (Addr.mk sB (sO + 3) none) (Value.slice p29 k30 k31) → ∃ R40 Φ41, Stable Φ41 ∧ Ctx W w39 (R40 ++ R38) Φ41 ∧ ∀ w42 R43, Ctx W w42 (R40 ++ R43) Φ41 → ∃ p44 k45 k46, w42.cell? (Addr.mk sB sO none) = some (.slice p44 k45 k46) ∧ ∀ w47 R48, Ctx W w47 (R40 ++ R48) Φ41 → Calls Tryz.prog F.errataref29_put #[.slice p44 k45 k46, .string key, .string value] w47 fun e49 w50 => ∃ p51 k52 k53, e49 = .returned (.slice p51 k52 k53) ∧ ∃ R54 Φ55, Stable
  Φ55 ∧ Ctx W w50 (R54 ++ R48) Φ55 ∧ ∀ w56 R57, Ctx W w56 (R54 ++ R57) Φ55 → CanWrite w56 sB sO 1 ∧ ∀ (w58 : World), w58 = w56.setCell (Addr.mk sB sO none) (Value.slice p51 k52 k53) → ∃ R59 Φ60, Stable Φ60 ∧ Ctx W w58 (R59 ++ R57) Φ60 ∧ ∀ w61 R62, Ctx W w61 (R59 ++ R62) Φ60 → Calls Tryz.prog F.errataref29_Store_settle #[.pointer (some (Addr.mk sB sO none))] w61 fun e63 w64 => e63 = .returned (Value.tuple #[]) ∧ ∃ R65 Φ66, Stable Φ66 ∧ Ctx W w64 (R65 ++ R62) Φ66 ∧ ∀ w67 R68, Ctx W w67 (R65 ++ R68) Φ66 → J (Value.tuple #[]) w67
theorem Berrataref29_Store_Put_run (sB sO : Nat) (key : ByteArray) (value : ByteArray) {W w : World} {R : List Own} {Φ : PW} [Stable Φ] {J : Value → World → Prop} (c : Ctx W w R Φ) (h : Berrataref29_Store_Put sB sO key value W R Φ J) : Calls Tryz.prog F.errataref29_Store_Put #[.pointer (some ⟨sB, sO, none⟩), .string key, .string value] w fun e w' => ∃ v, e = .returned v ∧ J v w' :=
  vcFS_sound (H := { keep := some [0, 1, 2], stages := [(1, [.held [(0, true), (1, true), (5, true), (9, true), (10, true), (2, true), (6, true), (3, true), (7, true), (4, true), (8, true), (11, true), (12, false), (13, false)], .stage [14] none, .stage [15] (some 16)])] }) (by rw [show vcFS Tryz.prog W { keep := some [0, 1, 2], stages := [(1, [.held [(0, true), (1, true), (5, true), (9, true), (10, true), (2, true), (6, true), (3, true), (7, true), (4, true), (8, true), (11, true), (12, false), (13, false)], .stage [14] none, .stage [15] (some 16)])] } F.errataref29_Store_Put #[.pointer (some ⟨sB, sO, none⟩), .string key, .string value] R Φ J = Berrataref29_Store_Put sB sO key value W R Φ J by kernel_rfl]; exact h) c
def Berrataref29_there (lP : Option Addr) (lN lC : Nat) (W : World) (R : List Own) (Φ : PW) (J : Value → World → Prop) : Prop :=
  exI fun (I0 : Option Addr → Nat → Nat → Int → List Own → PW → Nat → Prop) => (∃ R1 Φ2 k3, Stable Φ2 ∧ Wk W R Φ R1 Φ2 ∧ I0 none 0 0 0 R1 Φ2 k3) ∧ ∀ p6 k7 k8 n9 R10 I11 k12, Stable I11 → I0 p6 k7 k8 n9 R10 I11 k12 → Br (decide (n9 < (↑lN : Int))) ((0 ≤ n9 ∧ n9 < (↑lN : Int)) ∧ ptrK none lP fun k13 k14 => ∀ w15 R16, Ctx W w15 (R10 ++ R16) I11 → ∃ s17, w15.cell? (Addr.mk k13 (k14 + n9.toNat * 2 + 1) none) = some (.string s17) ∧ Br (decide (s17 ≠ ByteArray.mk #[])) ((0 ≤ n9 ∧ n9 < (↑lN : Int)) ∧ ptrK none lP fun k18 k19 => ∀ w20 R21, Ctx W w20 (R10 ++ R21) I11 → ∃ s22 s23, RowAt w20 k18 (k19 + n9.toNat * 2) [.string s22, .string s23] ∧ ∀ (k24 : Nat) (w25 : World) (R26 : List Own), Ctx W w25 (Own.blk k24 [.string s22, .string s23] 69 :: R10 ++ R26) I11 → ∃ (p27 : Option Addr) (k28 k29 : Nat) (w30 : World), Sem.run Tryz.prog (builtin Builtin.append #[48, 48] 48 #[false, false] #[.slice p6 k7
  k8, .slice (some (Addr.mk k24 0 none)) 1 1]) w25 = .ok (.value (.slice p27 k28 k29)) w30 ∧ ∃ R31 Φ32, Stable Φ32 ∧ Ctx W w30 (R31 ++ R26) Φ32 ∧ I64 (n9 + 1) ∧ ∃ R33 Φ34 k35, Stable Φ34 ∧ Wk W R31 Φ32 R33 Φ34 ∧ I0 p27 k28 k29 (n9 + 1) R33 Φ34 k35 ∧ k35 < k12) (I64 (n9 + 1) ∧ ∃ R38 Φ39 k40, Stable Φ39 ∧ Wk W R10 I11 R38 Φ39 ∧ I0 p6 k7 k8 (n9 + 1) R38 Φ39 k40 ∧ k40 < k12)) (∀ w43 R44, Ctx W w43 (R10 ++ R44) I11 → J (.slice p6 k7 k8) w43)
theorem Berrataref29_there_run (lP : Option Addr) (lN lC : Nat) {W w : World} {R : List Own} {Φ : PW} [Stable Φ] {J : Value → World → Prop} (c : Ctx W w R Φ) (h : Berrataref29_there lP lN lC W R Φ J) : Calls Tryz.prog F.errataref29_there #[.slice lP lN lC] w fun e w' => ∃ v, e = .returned v ∧ J v w' :=
  vcFS_sound (H := { keep := some [0, 2, 3, 4, 8, 16], loops := [(3, [(3, .one (.slice)), (4, .one (.int .i64))], [])] }) (by rw [show vcFS Tryz.prog W { keep := some [0, 2, 3, 4, 8, 16], loops := [(3, [(3, .one (.slice)), (4, .one (.int .i64))], [])] } F.errataref29_there #[.slice lP lN lC] R Φ J = Berrataref29_there lP lN lC W R Φ J by kernel_rfl]; exact h) c
def Berrataref01_Int (n : Int) (W : World) (R : List Own) (Φ : PW) (J : Value → World → Prop) : Prop :=
  Br (decide (n < 0)) (∀ w0 R1, Ctx W w0 (R ++ R1) Φ → Calls Tryz.prog F.errataref01_digits #[.int .i64 n] w0 fun e2 w3 => ∃ s4, e2 = .returned (.string s4) ∧ ∃ R5 Φ6, Stable Φ6 ∧ Ctx W w3 (R5 ++ R1) Φ6 ∧ ((ByteArray.mk #[OfNat.ofNat 45]).size + s4.size).le 9223372036854775807 ∧ ((ByteArray.mk #[OfNat.ofNat 45] ++ s4).size + (ByteArray.mk #[OfNat.ofNat 59]).size).le 9223372036854775807 ∧ ∀ w7 R8, Ctx W w7 (R5 ++ R8) Φ6 → J (.string (ByteArray.mk #[OfNat.ofNat 45] ++ s4 ++ ByteArray.mk #[OfNat.ofNat 59])) w7) (I64 (0 - n) ∧ ∀ w9 R10, Ctx W w9 (R ++ R10) Φ → Calls Tryz.prog F.errataref01_digits #[.int .i64 (0 - n)] w9 fun e11 w12 => ∃ s13, e11 = .returned (.string s13) ∧ ∃ R14 Φ15, Stable Φ15 ∧ Ctx W w12 (R14 ++ R10) Φ15 ∧ (s13.size + (ByteArray.mk #[OfNat.ofNat 59]).size).le 9223372036854775807 ∧ ∀ w16 R17, Ctx W w16 (R14 ++ R17) Φ15 → J (.string (s13 ++ ByteArray.mk #[OfNat.ofNat 59]))
  w16)
theorem Berrataref01_Int_run (n : Int) {W w : World} {R : List Own} {Φ : PW} [Stable Φ] {J : Value → World → Prop} (c : Ctx W w R Φ) (h : Berrataref01_Int n W R Φ J) : Calls Tryz.prog F.errataref01_Int #[.int .i64 n] w fun e w' => ∃ v, e = .returned v ∧ J v w' :=
  vcFS_sound (H := { keep := some [0, 2, 4] }) (by rw [show vcFS Tryz.prog W { keep := some [0, 2, 4] } F.errataref01_Int #[.int .i64 n] R Φ J = Berrataref01_Int n W R Φ J by kernel_rfl]; exact h) c
def Berrataref01_Num (n : Int) (W : World) (R : List Own) (Φ : PW) (J : Value → World → Prop) : Prop :=
  Br (decide (n < 0)) (∀ w0 R1, Ctx W w0 (R ++ R1) Φ → J (.string (ByteArray.mk #[])) w0) (∀ w2 R3, Ctx W w2 (R ++ R3) Φ → Calls Tryz.prog F.errataref01_Int #[.int .i64 n] w2 fun e4 w5 => ∃ s6, e4 = .returned (.string s6) ∧ ∃ R7 Φ8, Stable Φ8 ∧ Ctx W w5 (R7 ++ R3) Φ8 ∧ ∀ w9 R10, Ctx W w9 (R7 ++ R10) Φ8 → J (.string s6) w9)
theorem Berrataref01_Num_run (n : Int) {W w : World} {R : List Own} {Φ : PW} [Stable Φ] {J : Value → World → Prop} (c : Ctx W w R Φ) (h : Berrataref01_Num n W R Φ J) : Calls Tryz.prog F.errataref01_Num #[.int .i64 n] w fun e w' => ∃ v, e = .returned v ∧ J v w' :=
  vcFS_sound (H := { keep := some [0, 2, 4] }) (by rw [show vcFS Tryz.prog W { keep := some [0, 2, 4] } F.errataref01_Num #[.int .i64 n] R Φ J = Berrataref01_Num n W R Φ J by kernel_rfl]; exact h) c
def Berrataref01_Text (s : ByteArray) (W : World) (R : List Own) (Φ : PW) (J : Value → World → Prop) : Prop :=
  I64 (0 - (↑s.size : Int)) ∧ ∀ w0 R1, Ctx W w0 (R ++ R1) Φ → Calls Tryz.prog F.errataref01_digits #[.int .i64 (0 - (↑s.size : Int))] w0 fun e2 w3 => ∃ s4, e2 = .returned (.string s4) ∧ ∃ R5 Φ6, Stable Φ6 ∧ Ctx W w3 (R5 ++ R1) Φ6 ∧ (s4.size + (ByteArray.mk #[OfNat.ofNat 58]).size).le 9223372036854775807 ∧ ((s4 ++ ByteArray.mk #[OfNat.ofNat 58]).size + s.size).le 9223372036854775807 ∧ ((s4 ++ ByteArray.mk #[OfNat.ofNat 58] ++ s).size + (ByteArray.mk #[OfNat.ofNat 44]).size).le 9223372036854775807 ∧ ∀ w7 R8, Ctx W w7 (R5 ++ R8) Φ6 → J (.string (s4 ++ ByteArray.mk #[OfNat.ofNat 58] ++ s ++ ByteArray.mk #[OfNat.ofNat 44])) w7
theorem Berrataref01_Text_run (s : ByteArray) {W w : World} {R : List Own} {Φ : PW} [Stable Φ] {J : Value → World → Prop} (c : Ctx W w R Φ) (h : Berrataref01_Text s W R Φ J) : Calls Tryz.prog F.errataref01_Text #[.string s] w fun e w' => ∃ v, e = .returned v ∧ J v w' :=
  vcFS_sound (H := { keep := some [0, 2] }) (by rw [show vcFS Tryz.prog W { keep := some [0, 2] } F.errataref01_Text #[.string s] R Φ J = Berrataref01_Text s W R Φ J by kernel_rfl]; exact h) c
def Berrataref01_Reader_ahead (rB rO : Nat) (endx : Int) (W : World) (R : List Own) (Φ : PW) (J : Value → World → Prop) : Prop :=
  exI fun (I0 : Int → List Own → PW → Nat → Prop) => (∃ R1 Φ2 k3, Stable Φ2 ∧ Wk W R Φ R1 Φ2 ∧ I0 0 R1 Φ2 k3) ∧ ∀ n6 R7 I8 k9, Stable I8 → I0 n6 R7 I8 k9 → ∀ w10 R11, Ctx W w10 (R7 ++ R11) I8 → ∃ s12, w10.cell? (Addr.mk rB rO none) = some (.string s12) ∧ ∃ (s13 : ByteArray), ((decide (n6 < (↑s12.size : Int)) && decide (n6 < 21)) = true → w10.cell? (Addr.mk rB rO none) = some (.string s13)) ∧ ∃ (u14 : UInt8), ((decide (n6 < (↑s12.size : Int)) && decide (n6 < 21)) = true → 0 ≤ n6 ∧ s13.data.toList.get?Internal n6.toNat = some u14) ∧ Br (decide (n6 < (↑s12.size : Int)) && decide (n6 < 21) && decide ((↑u14.toNat : Int) ≠ endx)) (I64 (n6 + 1) ∧ ∃ R15 Φ16 k17, Stable Φ16 ∧ Wk W R7 I8 R15 Φ16 ∧ I0 (n6 + 1) R15 Φ16 k17 ∧ k17 < k9) (∀ w20 R21, Ctx W w20 (R7 ++ R21) I8 → ∃ s22, w20.cell? (Addr.mk rB rO none) = some (.string s22) ∧ Br (decide ((↑s22.size : Int) ≤ n6)) (∀ w23 R24, Ctx W w23 (R7 ++
  R24) I8 → Calls Tryz.prog F.errataref01_Reader_fail #[.pointer (some (Addr.mk rB rO none))] w23 fun e25 w26 => ∃ n27, e25 = .returned (.int .i64 n27) ∧ ∃ R28 Φ29, Stable Φ29 ∧ Ctx W w26 (R28 ++ R24) Φ29 ∧ ∀ w30 R31, Ctx W w30 (R28 ++ R31) Φ29 → J (.int .i64 n27) w30) (∀ w32 R33, Ctx W w32 (R7 ++ R33) I8 → ∃ s34, w32.cell? (Addr.mk rB rO none) = some (.string s34) ∧ ∃ (u35 : UInt8), (0 ≤ n6 ∧ s34.data.toList.get?Internal n6.toNat = some u35) ∧ Br (decide ((↑u35.toNat : Int) ≠ endx)) (∀ w36 R37, Ctx W w36 (R7 ++ R37) I8 → Calls Tryz.prog F.errataref01_Reader_fail #[.pointer (some (Addr.mk rB rO none))] w36 fun e38 w39 => ∃ n40, e38 = .returned (.int .i64 n40) ∧ ∃ R41 Φ42, Stable Φ42 ∧ Ctx W w39 (R41 ++ R37) Φ42 ∧ ∀ w43 R44, Ctx W w43 (R41 ++ R44) Φ42 → J (.int .i64 n40) w43) (∀ w45 R46, Ctx W w45 (R7 ++ R46) I8 → ∃ s47, w45.cell? (Addr.mk rB rO none) = some (.string s47) ∧ (0 ≤ n6 ∧ n6 ≤
  (↑s47.size : Int)) ∧ ∀ w48 R49, Ctx W w48 (R7 ++ R49) I8 → Calls Tryz.prog F.errataref01_Back #[.string (s47.extract 0 n6.toNat)] w48 fun e50 w51 => ∃ n52 c53, e50 = .returned (Value.tuple #[.int .i64 n52, .bool c53]) ∧ ∃ R54 Φ55, Stable Φ55 ∧ Ctx W w51 (R54 ++ R49) Φ55 ∧ Br (!c53) (∀ w56 R57, Ctx W w56 (R54 ++ R57) Φ55 → Calls Tryz.prog F.errataref01_Reader_fail #[.pointer (some (Addr.mk rB rO none))] w56 fun e58 w59 => ∃ n60, e58 = .returned (.int .i64 n60) ∧ ∃ R61 Φ62, Stable Φ62 ∧ Ctx W w59 (R61 ++ R57) Φ62 ∧ ∀ w63 R64, Ctx W w63 (R61 ++ R64) Φ62 → J (.int .i64 n60) w63) (∀ w65 R66, Ctx W w65 (R54 ++ R66) Φ55 → ∃ s67, w65.cell? (Addr.mk rB rO none) = some (.string s67) ∧ I64 (n6 + 1) ∧ (0 ≤ n6 + 1 ∧ n6 + 1 ≤ (↑s67.size : Int) ∧ s67.size ≤ s67.size) ∧ ∀ w68 R69, Ctx W w68 (R54 ++ R69) Φ55 → CanWrite w68 rB rO 1 ∧ ∀ (w70 : World), w70 = w68.setCell (Addr.mk rB rO none) (Value.string
  (s67.extract (n6 + 1).toNat s67.size)) → ∃ R71 Φ72, Stable Φ72 ∧ Ctx W w70 (R71 ++ R69) Φ72 ∧ ∀ w73 R74, Ctx W w73 (R71 ++ R74) Φ72 → J (.int .i64 n52) w73))))
theorem Berrataref01_Reader_ahead_run (rB rO : Nat) (endx : Int) {W w : World} {R : List Own} {Φ : PW} [Stable Φ] {J : Value → World → Prop} (c : Ctx W w R Φ) (h : Berrataref01_Reader_ahead rB rO endx W R Φ J) : Calls Tryz.prog F.errataref01_Reader_ahead #[.pointer (some ⟨rB, rO, none⟩), .int .u8 endx] w fun e w' => ∃ v, e = .returned v ∧ J v w' :=
  vcFS_sound (H := { keep := some [0, 1, 4, 5, 6, 7, 28, 37, 47, 61], loops := [(2, [(5, .one (.int .i64))], [])] }) (by rw [show vcFS Tryz.prog W { keep := some [0, 1, 4, 5, 6, 7, 28, 37, 47, 61], loops := [(2, [(5, .one (.int .i64))], [])] } F.errataref01_Reader_ahead #[.pointer (some ⟨rB, rO, none⟩), .int .u8 endx] R Φ J = Berrataref01_Reader_ahead rB rO endx W R Φ J by kernel_rfl]; exact h) c
def Berrataref01_Reader_number (rB rO : Nat) (endx : Int) (W : World) (R : List Own) (Φ : PW) (J : Value → World → Prop) : Prop :=
  ∀ w0 R1, Ctx W w0 (R ++ R1) Φ → Calls Tryz.prog F.errataref01_Reader_ahead #[.pointer (some (Addr.mk rB rO none)), .int IntKind.u8 endx] w0 fun e2 w3 => ∃ n4, e2 = .returned (.int .i64 n4) ∧ ∃ R5 Φ6, Stable Φ6 ∧ Ctx W w3 (R5 ++ R1) Φ6 ∧ Br (decide (n4 < 0)) (∀ w7 R8, Ctx W w7 (R5 ++ R8) Φ6 → Calls Tryz.prog F.errataref01_Reader_fail #[.pointer (some (Addr.mk rB rO none))] w7 fun e9 w10 => ∃ n11, e9 = .returned (.int .i64 n11) ∧ ∃ R12 Φ13, Stable Φ13 ∧ Ctx W w10 (R12 ++ R8) Φ13 ∧ ∀ w14 R15, Ctx W w14 (R12 ++ R15) Φ13 → J (.int .i64 n11) w14) (∀ w16 R17, Ctx W w16 (R5 ++ R17) Φ6 → J (.int .i64 n4) w16)
theorem Berrataref01_Reader_number_run (rB rO : Nat) (endx : Int) {W w : World} {R : List Own} {Φ : PW} [Stable Φ] {J : Value → World → Prop} (c : Ctx W w R Φ) (h : Berrataref01_Reader_number rB rO endx W R Φ J) : Calls Tryz.prog F.errataref01_Reader_number #[.pointer (some ⟨rB, rO, none⟩), .int .u8 endx] w fun e w' => ∃ v, e = .returned v ∧ J v w' :=
  vcFS_sound (H := { keep := some [0, 1, 4, 5, 10] }) (by rw [show vcFS Tryz.prog W { keep := some [0, 1, 4, 5, 10] } F.errataref01_Reader_number #[.pointer (some ⟨rB, rO, none⟩), .int .u8 endx] R Φ J = Berrataref01_Reader_number rB rO endx W R Φ J by kernel_rfl]; exact h) c
def Berrataref01_Reader_fail (rB rO : Nat) (W : World) (R : List Own) (Φ : PW) (J : Value → World → Prop) : Prop :=
  ∀ w0 R1, Ctx W w0 (R ++ R1) Φ → CanWrite w0 rB rO 1 ∧ ∀ (w2 : World), w2 = w0.setCell (Addr.mk rB rO none) (Value.string (ByteArray.mk #[])) → ∃ R3 Φ4, Stable Φ4 ∧ Ctx W w2 (R3 ++ R1) Φ4 ∧ ∀ w5 R6, Ctx W w5 (R3 ++ R6) Φ4 → CanWrite w5 rB (rO + 1) 1 ∧ ∀ (w7 : World), w7 = w5.setCell (Addr.mk rB (rO + 1) none) (Value.bool true) → ∃ R8 Φ9, Stable Φ9 ∧ Ctx W w7 (R8 ++ R6) Φ9 ∧ ∀ w10 R11, Ctx W w10 (R8 ++ R11) Φ9 → J (.int .i64 0) w10
theorem Berrataref01_Reader_fail_run (rB rO : Nat) {W w : World} {R : List Own} {Φ : PW} [Stable Φ] {J : Value → World → Prop} (c : Ctx W w R Φ) (h : Berrataref01_Reader_fail rB rO W R Φ J) : Calls Tryz.prog F.errataref01_Reader_fail #[.pointer (some ⟨rB, rO, none⟩)] w fun e w' => ∃ v, e = .returned v ∧ J v w' :=
  vcFS_sound (H := { keep := some [0, 2] }) (by rw [show vcFS Tryz.prog W { keep := some [0, 2] } F.errataref01_Reader_fail #[.pointer (some ⟨rB, rO, none⟩)] R Φ J = Berrataref01_Reader_fail rB rO W R Φ J by kernel_rfl]; exact h) c
def Berrataref01_Reader_close (rB rO : Nat) (endx : Int) (W : World) (R : List Own) (Φ : PW) (J : Value → World → Prop) : Prop :=
  ∀ w0 R1, Ctx W w0 (R ++ R1) Φ → ∃ s2, w0.cell? (Addr.mk rB rO none) = some (.string s2) ∧ Br (decide ((↑s2.size : Int) = 0)) (∀ w3 R4, Ctx W w3 (R ++ R4) Φ → Calls Tryz.prog F.errataref01_Reader_fail #[.pointer (some (Addr.mk rB rO none))] w3 fun e5 w6 => ∃ n7, e5 = .returned (.int .i64 n7) ∧ ∃ R8 Φ9, Stable Φ9 ∧ Ctx W w6 (R8 ++ R4) Φ9 ∧ ∀ w10 R11, Ctx W w10 (R8 ++ R11) Φ9 → J (.bool false) w10) (∀ w12 R13, Ctx W w12 (R ++ R13) Φ → ∃ s14, w12.cell? (Addr.mk rB rO none) = some (.string s14) ∧ ∃ (u15 : UInt8), ((0 : Int) ≤ 0 ∧ s14.data.toList.get?Internal 0 = some u15) ∧ Br (decide ((↑u15.toNat : Int) ≠ endx)) (∀ w16 R17, Ctx W w16 (R ++ R17) Φ → Calls Tryz.prog F.errataref01_Reader_fail #[.pointer (some (Addr.mk rB rO none))] w16 fun e18 w19 => ∃ n20, e18 = .returned (.int .i64 n20) ∧ ∃ R21 Φ22, Stable Φ22 ∧ Ctx W w19 (R21 ++ R17) Φ22 ∧ ∀ w23 R24, Ctx W w23 (R21 ++ R24) Φ22 → J (.bool
  false) w23) (∀ w25 R26, Ctx W w25 (R ++ R26) Φ → ∃ s27, w25.cell? (Addr.mk rB rO none) = some (.string s27) ∧ ((0 : Int) ≤ 1 ∧ 1 ≤ (↑s27.size : Int) ∧ s27.size ≤ s27.size) ∧ ∀ w28 R29, Ctx W w28 (R ++ R29) Φ → CanWrite w28 rB rO 1 ∧ ∀ (w30 : World), w30 = w28.setCell (Addr.mk rB rO none) (Value.string (s27.extract 1 s27.size)) → ∃ R31 Φ32, Stable Φ32 ∧ Ctx W w30 (R31 ++ R29) Φ32 ∧ ∀ w33 R34, Ctx W w33 (R31 ++ R34) Φ32 → J (.bool true) w33))
theorem Berrataref01_Reader_close_run (rB rO : Nat) (endx : Int) {W w : World} {R : List Own} {Φ : PW} [Stable Φ] {J : Value → World → Prop} (c : Ctx W w R Φ) (h : Berrataref01_Reader_close rB rO endx W R Φ J) : Calls Tryz.prog F.errataref01_Reader_close #[.pointer (some ⟨rB, rO, none⟩), .int .u8 endx] w fun e w' => ∃ v, e = .returned v ∧ J v w' :=
  vcFS_sound (H := { keep := some [0, 1, 4, 10, 19] }) (by rw [show vcFS Tryz.prog W { keep := some [0, 1, 4, 10, 19] } F.errataref01_Reader_close #[.pointer (some ⟨rB, rO, none⟩), .int .u8 endx] R Φ J = Berrataref01_Reader_close rB rO endx W R Φ J by kernel_rfl]; exact h) c
def Berrataref01_digits (n : Int) (W : World) (R : List Own) (Φ : PW) (J : Value → World → Prop) : Prop :=
  ((10 : Int) = 0 → False) ∧ I64 (48 - n.tmod 10) ∧ ∀ (k0 : Nat) (w1 : World) (R2 : List Own), Ctx W w1 (Own.blk k0 [.int IntKind.u8 (IntKind.u8.wrap (48 - n.tmod 10))] 5 :: R ++ R2) Φ → ∃ (s3 : ByteArray) (w4 : World), Sem.run Tryz.prog (convert 87 9 (Value.slice (some (Addr.mk k0 0 none)) 1 1)) w1 = Result.ok (Value.string s3) w4 ∧ ∃ R5 Φ6, Stable Φ6 ∧ Ctx W w4 (R5 ++ R2) Φ6 ∧ Br (decide (-10 < n)) (∀ w7 R8, Ctx W w7 (R5 ++ R8) Φ6 → J (.string s3) w7) (((10 : Int) = 0 → False) ∧ I64 (n.tdiv 10) ∧ ∀ w9 R10, Ctx W w9 (R5 ++ R10) Φ6 → Calls Tryz.prog F.errataref01_digits #[.int .i64 (n.tdiv 10)] w9 fun e11 w12 => ∃ s13, e11 = .returned (.string s13) ∧ ∃ R14 Φ15, Stable Φ15 ∧ Ctx W w12 (R14 ++ R10) Φ15 ∧ (s13.size + s3.size).le 9223372036854775807 ∧ ∀ w16 R17, Ctx W w16 (R14 ++ R17) Φ15 → J (.string (s13 ++ s3)) w16)
theorem Berrataref01_digits_run (n : Int) {W w : World} {R : List Own} {Φ : PW} [Stable Φ] {J : Value → World → Prop} (c : Ctx W w R Φ) (h : Berrataref01_digits n W R Φ J) : Calls Tryz.prog F.errataref01_digits #[.int .i64 n] w fun e w' => ∃ v, e = .returned v ∧ J v w' :=
  vcFS_sound (H := { keep := some [0, 2, 3, 11] }) (by rw [show vcFS Tryz.prog W { keep := some [0, 2, 3, 11] } F.errataref01_digits #[.int .i64 n] R Φ J = Berrataref01_digits n W R Φ J by kernel_rfl]; exact h) c
end Go.Proofs.YtebnciehcnedjaaGreatDoor
end

