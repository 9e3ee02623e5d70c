/-
  For every input erratalaw41.LedgerBack returns true, does not panic, comes to an end, and leaves what came in as it was; the variables that its row lists are as the program's text lays them.
  Conditions: none beyond the given statement's own (LedgerBackCardSaid).
-/
import Derived.Test.YtbkpfhhhbhaecaaGreatDoorLB8
import Derived.Test.YtbkpfhhhbhaecaaGreatDoorCards
import Derived.MakeChecks
import Derived.Stop.LaidErr
import Derived.Lib.LaidTab
import Derived.Test.YtbkpfhhhbhaecaaGreatDoorTie
import Derived.SevenTiedAt
import Derived.LaidMore
import Derived.ChangeMaps5
import Derived.Test.YtbkpfhhhbhaecaaGreatDoorRows

/-
  What the laws of ledgers do themselves: residues, batches that fit, bounds; the reference's net; counts and causes; a new ledger.
-/
section
set_option linter.unusedVariables false
set_option linter.unusedSimpArgs false
namespace Go.Proofs.YtbkpfhhhbhaecaaGreatDoor
open Go.Vc


/-! ### plain -/
structure PushD where
  batch : Int
  mark : Int
  l : List LineD
  fit : Bool
instance : Gv PushD := Gv.via (β := Int × Int × List LineD × Bool) (fun x => (x.batch, x.mark, x.l, x.fit)) (fun y => ⟨y.1, y.2.1, y.2.2.1, y.2.2.2⟩) (fun _ => rfl)
abbrev PushD.cells (x : PushD) (p : Option Addr) (c : Nat) : List Value := [.int .i64 x.batch, .int .i64 x.mark, .slice p x.l.length c, .bool x.fit]
abbrev PushD.v (x : PushD) (p : Option Addr) (c : Nat) : Value := .agg #[.int .i64 x.batch, .int .i64 x.mark, .slice p x.l.length c, .bool x.fit]
theorem push_cells {M : List Nat} {w : World} {cs : List Value} {x : PushD} (h : Gv.rep M w cs x) : ∃ p c, cs = x.cells p c ∧ x.l.length ≤ c ∧ c ≤ maxLen ∧ I64 x.batch ∧ I64 x.mark ∧ Sl M w p x.l := by
  obtain ⟨_, _, rfl, ⟨rfl, h1⟩, _, _, rfl, ⟨rfl, h2⟩, _, _, rfl, ⟨p, c, rfl, g1, g2, g3⟩, h4⟩ := h
  exact ⟨p, c, by rw [h4]; rfl, g1, g2, h1, h2, g3⟩

def modP (n m : Int) : Int := if n.tmod m < 0 then n.tmod m + m else n.tmod m
theorem mod_bd {n m : Int} (h : 0 < m) : 0 ≤ modP n m ∧ modP n m < m := by
  have h1 := Int.tmod_lt_of_pos n h
  have h2 : -m < n.tmod m := by
    have := Int.tmod_lt_of_pos (-n) h
    rw [Int.neg_tmod] at this; omega
  unfold modP
  split <;> omega
def fitL (next nb mark nm : Int) (i : Nat) (x : LineD) : LineD :=
  ⟨next + i, nb, modP x.time (max (nm + 1) 1), x.row, x.n, if x.cause ≠ 2 then (if modP x.time (max (nm + 1) 1) ≤ mark then 1 else 0) else x.cause, x.why⟩
def fitLs (next nb mark nm : Int) (l : List LineD) : List LineD := l.mapIdx (fitL next nb mark nm)
def fitP (x : PushD) (last mark next : Int) : PushD :=
  if x.fit = true then ⟨w64 (w64 (last + 1) + modP x.batch 3), mark + modP x.mark 20, fitLs next (w64 (w64 (last + 1) + modP x.batch 3)) mark (mark + modP x.mark 20) x.l, true⟩ else x
theorem fitLs_len (next nb mark nm : Int) (l : List LineD) : (fitLs next nb mark nm l).length = l.length := by unfold fitLs; simp
theorem fitLs_row (next nb mark nm : Int) (l : List LineD) : ∀ x ∈ fitLs next nb mark nm l, ∃ y ∈ l, x.row = y.row := fun x hx => by
  unfold fitLs at hx
  obtain ⟨i, hi, rfl⟩ := List.getElem_of_mem hx
  rw [List.getElem_mapIdx]
  exact ⟨_, List.getElem_mem _, rfl⟩
theorem fitP_len (x : PushD) (last mark next : Int) : (fitP x last mark next).l.length = x.l.length := by
  unfold fitP
  split
  · exact fitLs_len _ _ _ _ _
  · rfl
theorem fitP_row (x : PushD) (last mark next : Int) : ∀ y ∈ (fitP x last mark next).l, ∃ z ∈ x.l, y.row = z.row := fun y hy => by
  unfold fitP at hy
  split at hy
  · exact fitLs_row _ _ _ _ _ y hy
  · exact ⟨y, hy, rfl⟩
def midL (next nb mark nm : Int) (l : List LineD) (i : Nat) : List LineD := (fitLs next nb mark nm l).take i ++ l.drop i
theorem midL_len (next nb mark nm : Int) (l : List LineD) {i : Nat} (h : i ≤ l.length) : (midL next nb mark nm l i).length = l.length := by
  unfold midL
  rw [List.length_append, List.length_take, List.length_drop, fitLs_len]; omega
theorem midL_at (next nb mark nm : Int) (l : List LineD) {i : Nat} (h : i < l.length) : (midL next nb mark nm l i)[i]? = some l[i] := by
  unfold midL
  rw [List.getElem?_append_right (by rw [List.length_take, fitLs_len]; omega), List.length_take, fitLs_len, show min i l.length = i by omega, Nat.sub_self, List.getElem?_drop, Nat.add_zero, List.getElem?_eq_getElem h]
theorem midL_step (next nb mark nm : Int) (l : List LineD) {i : Nat} (h : i < l.length) : (midL next nb mark nm l i).set i (fitL next nb mark nm i l[i]) = midL next nb mark nm l (i + 1) := by
  have hl : ((fitLs next nb mark nm l).take i).length = i := by rw [List.length_take, fitLs_len]; omega
  unfold midL
  rw [List.set_append_right _ _ (by omega), hl, Nat.sub_self, List.drop_eq_getElem_cons h, List.set_cons_zero, List.take_succ_eq_append_getElem (by rw [fitLs_len]; exact h), List.append_assoc]
  congr 1
  unfold fitLs
  rw [List.getElem_mapIdx]
  rfl

def shortL (l : List LineD) (n : Int) : Bool := (l.all fun x => shortB x.row 13) && decide ((l.length : Int) ≤ n)
def fewL (l : List PushD) (n : Int) : Bool := (l.all fun x => shortL x.l 12) && decide ((l.length : Int) ≤ n)

section
variable {Φ : PW} {q : LP} {st : LedD} {W w : World} {R S G : List Own} {p : Option Addr} {cap : Nat} {l : List LineD} {cs : List Value}

theorem mod_g {n m : Int} (h : 0 < m) (hm : m ≤ 4611686018427387904) : Gives Tryz.prog F.erratalaw41_mod #[.int .i64 n, .int .i64 m] (.int .i64 (modP n m)) := by
  have hb := mod_bd (n := n) h
  refine gives_of (Berratalaw41_mod_run n m) fun W R Φ _ => ⟨fun e => by omega, Br.intro (fun h1 => ⟨?_, fun w G c => ⟨?_, c.left⟩⟩) (fun h1 => fun w G c => ⟨?_, c.left⟩)⟩
  · have e : n.tmod m + m = modP n m := by unfold modP; rw [if_pos (of_decide_eq_true h1)]
    rw [e]; unfold I64; omega
  · unfold modP; rw [if_pos (of_decide_eq_true h1)]
  · unfold modP; rw [if_neg (of_decide_eq_false h1)]

/-- a cell of a row is read -/
theorem l_get {g n : Nat} (cx : Ctx W w (bufL (some ⟨g, 0, none⟩) n cap cs :: S) (fun M w => Φ M w ∧ Elems M w cs l)) {i k : Nat} {y : LineD} (hy : l[i]? = some y) {v : Value} (hv : ∀ p c, (y.cells p c)[k]? = some v) : w.cell? ⟨g, i * 7 + k, none⟩ = some v := by
  obtain ⟨hi, rfl⟩ := List.getElem?_eq_some_iff.1 hy
  obtain ⟨p, c, hp, _⟩ := lrow cx.phi.2 hi
  have hk := hv p c
  obtain ⟨hkl, hkv⟩ := List.getElem?_eq_some_iff.1 hk
  have := l_at cx hp k hkl
  rw [this, hkv]
/-- a cell of a row is written -/
theorem l_cellI [Stable Φ] {w' : World} {g n : Nat} (cx : Ctx W w (bufL (some ⟨g, 0, none⟩) n cap cs :: S) (fun M w => Φ M w ∧ Elems M w cs l)) {i : Nat} (x : LineD) {y : LineD} (hy : l[i]? = some y) {k : Nat} {v : Value}
    (hk : k < 7) (hr : x.row = y.row) (hx : ∀ p c, (y.cells p c).set k v = x.cells p c) (hin : y.In → x.In) (e : w' = w.setCell ⟨g, i * 7 + k, none⟩ v) :
    ∃ cs', Ctx W w' (bufL (some ⟨g, 0, none⟩) n cap cs' :: S) (fun M w => Φ M w ∧ Elems M w cs' (l.set i x)) := by
  obtain ⟨hi, rfl⟩ := List.getElem?_eq_some_iff.1 hy
  obtain ⟨cs', _, h⟩ := l_cell cx hi x hk hr hx hin e
  exact ⟨cs', h⟩
theorem l_canI {g n : Nat} (cx : Ctx W w (bufL (some ⟨g, 0, none⟩) n cap cs :: S) (fun M w => Φ M w ∧ Elems M w cs l)) {i k : Nat} (hi : i < l.length) (hk : k < 7) : CanWrite w g (i * 7 + k) 1 := by
  have := elems_len7 cx.phi.2
  exact l_can cx (by omega)

set_option maxHeartbeats 4000000 in
theorem fitted_to [Stable Φ] {x : PushD} {last mark next : Int} [hΦ : Has Φ (fun M w => Sl M w p x.l)] (hc1 : x.l.length ≤ cap) (hc2 : cap ≤ maxLen) (hlen : x.l.length ≤ 100000) (hm : -1 ≤ mark ∧ mark ≤ 1099511627776) (hn : 0 ≤ next ∧ next ≤ 10000000) (c : Ctx W w (R ++ G) Φ) {K : Int → Int → Option Addr → Nat → Nat → Bool → List Own → PW → Prop}
    (h : ∀ p' c', (fitP x last mark next).l.length ≤ c' → c' ≤ maxLen → There p' (fitP x last mark next).l.length → Stable (fun M w => Φ M w ∧ Sl M w p' (fitP x last mark next).l) → K (fitP x last mark next).batch (fitP x last mark next).mark p' (fitP x last mark next).l.length c' (fitP x last mark next).fit R (fun M w => Φ M w ∧ Sl M w p' (fitP x last mark next).l)) :
    Calls Tryz.prog F.erratalaw41_fitted #[x.v p cap, .int .i64 last, .int .i64 mark, .int .i64 next] w fun e w' => ∃ a b p' k c' f, e = .returned (.agg #[.int .i64 a, .int .i64 b, .slice p' k c', .bool f]) ∧ ∃ R' Φ', Stable Φ' ∧ Ctx W w' (R' ++ G) Φ' ∧ K a b p' k c' f R' Φ' := by
  refine (Berratalaw41_fitted_run x.batch x.mark p x.l.length cap x.fit last mark next (R := R ++ G) (J := fun v w' => ∃ a b p' k c' f, v = .agg #[.int .i64 a, .int .i64 b, .slice p' k c', .bool f] ∧ ∃ R' Φ', Stable Φ' ∧ Ctx W w' (R' ++ G) Φ' ∧ K a b p' k c' f R' Φ') c ?_).mono fun e w' ⟨v, he, a, b, p', k, c', f, hv, rest⟩ => ⟨a, b, p', k, c', f, by rw [he, hv], rest⟩
  have hth := (hΦ.go _ _ c.phi).there
  clear c
  refine fun _ _ => Br.intro (fun hf => fun w G2 cx => ?_) (fun hf => ?_)
  · have hf : x.fit = false := by simpa using hf
    have e : fitP x last mark next = x := by unfold fitP; rw [if_neg (by rw [hf]; simp)]
    rw [e] at h
    exact ⟨_, _, _, _, _, _, rfl, R, _, inferInstance, cx.left.weak fun M w h => ⟨h, hΦ.go M w h⟩, h p cap hc1 hc2 hth inferInstance⟩
  have hf : x.fit = true := by simpa using hf
  have m1 := mod_bd (n := x.batch) (m := 3) (by omega)
  have m2 := mod_bd (n := x.mark) (m := 20) (by omega)
  obtain ⟨nb, hnb⟩ : ∃ nb, w64 (w64 (last + 1) + modP x.batch 3) = nb := ⟨_, rfl⟩
  obtain ⟨nm, hnm⟩ : ∃ nm, mark + modP x.mark 20 = nm := ⟨_, rfl⟩
  have hnb64 : I64 nb := by rw [← hnb]; exact w64_in _
  have e : fitP x last mark next = ⟨nb, nm, fitLs next nb mark nm x.l, true⟩ := by unfold fitP; rw [if_pos hf, hnb, hnm]
  rw [e] at h
  simp only at h
  refine fun w G2 cx => (mod_g (n := x.batch) (m := 3) (by omega) (by omega)).use cx fun w c => ⟨_, rfl, R ++ G, Φ, inferInstance, c, ?_⟩
  clear cx c
  refine fun w G2 cx => (mod_g (n := x.mark) (m := 20) (by omega) (by omega)).use cx fun w c => ⟨_, rfl, R ++ G, Φ, inferInstance, c, ?_⟩
  clear cx c
  rw [show IntKind.i64.wrap (IntKind.i64.wrap (last + 1) + modP x.batch 3) = nb from hnb, hnm]
  refine ⟨by unfold I64; omega, fun kb w G2 cx => ?_⟩
  have cx1 : Ctx W w (bufL (some ⟨kb, 0, none⟩) 0 0 [] :: ((R ++ G) ++ G2)) Φ := cx.toBuf 0 0 7 rfl (by simp) (by simp [maxLen])
  obtain ⟨p1, c1, w1, news, hrun, cx2⟩ := Ctx.appAny (P := Tryz.prog) (ts := 31) (ty := 31) (kb := #[false, false]) (bytes := 72) (c2 := cap) (l := x.l) (q := p) cx1 (by kernel_rfl) line_one hΦ.go (by omega) (by omega)
  rw [Nat.zero_add] at hrun cx2
  refine ⟨p1, x.l.length, c1, w1, hrun, bufL p1 x.l.length c1 news :: (R ++ G), (fun M w => Φ M w ∧ Elems M w news x.l), inferInstance, cx2, ?_⟩
  have hel := cx2.phi.2
  have hpt : 0 < x.l.length → ∃ g, p1 = some ⟨g, 0, none⟩ := fun h0 => l_ptr cx2 (by show 0 < news.length; rw [elems_len7 hel]; omega)
  clear cx cx1 cx2 hel hrun
  have hmid0 : midL next nb mark nm x.l 0 = x.l := by unfold midL; simp
  refine exI_mk (fun iI R' Φ' k => ∃ (i : Nat) (cs : List Value), iI = i ∧ i ≤ x.l.length ∧ R' = bufL p1 x.l.length c1 cs :: (R ++ G) ∧ Φ' = (fun M w => Φ M w ∧ Elems M w cs (midL next nb mark nm x.l i)) ∧ k = x.l.length - i) ⟨⟨_, _, _, instStableAnd Φ (fun M w => Elems M w news x.l), fun w G cx => cx, 0, news, rfl, Nat.zero_le _, rfl, by rw [hmid0], rfl⟩, ?_⟩
  rintro iI R1 Φ1 k _ ⟨i, cs, rfl, hi, rfl, rfl, rfl⟩
  have hml := midL_len next nb mark nm x.l hi
  refine Br.intro (fun hlt => ?_) (fun hge => fun w G3 cx => ?_)
  · have hlt : i < x.l.length := by have := of_decide_eq_true hlt; omega
    obtain ⟨g, rfl⟩ := hpt (by omega)
    have hat := midL_at next nb mark nm x.l hlt
    have hstep := midL_step next nb mark nm x.l hlt
    obtain ⟨B, hB⟩ : ∃ B, midL next nb mark nm x.l i = B := ⟨_, rfl⟩
    rw [hB] at hml hat hstep ⊢
    have hiB : i < B.length := by omega
    have set2 : ∀ (a b : LineD), (B.set i a).set i b = B.set i b := fun a b => List.set_set ..
    have at2 : ∀ a : LineD, (B.set i a)[i]? = some a := fun a => List.getElem?_set_self hiB
    have ln2 : ∀ a : LineD, i < (B.set i a).length := fun a => by rw [List.length_set]; exact hiB
    have m3 := mod_bd (n := x.l[i].time) (m := max (nm + 1) 1) (by omega)
    obtain ⟨y, hy⟩ : ∃ y, x.l[i] = y := ⟨_, rfl⟩
    rw [hy] at hat hstep m3
    obtain ⟨t, ht⟩ : ∃ t, modP y.time (max (nm + 1) 1) = t := ⟨_, rfl⟩
    rw [ht] at m3
    obtain ⟨x1, hx1⟩ : ∃ x1 : LineD, x1 = ⟨next + i, y.batch, y.time, y.row, y.n, y.cause, y.why⟩ := ⟨_, rfl⟩
    obtain ⟨x2, hx2⟩ : ∃ x2 : LineD, x2 = ⟨next + i, nb, y.time, y.row, y.n, y.cause, y.why⟩ := ⟨_, rfl⟩
    obtain ⟨x3, hx3⟩ : ∃ x3 : LineD, x3 = ⟨next + i, nb, t, y.row, y.n, y.cause, y.why⟩ := ⟨_, rfl⟩
    have st0 : ∀ (c : List Value) (l : List LineD), Stable (fun M w => Φ M w ∧ Elems M w c l) := fun c l => instStableAnd Φ (fun M w => Elems M w c l)
    have off : ∀ k : Nat, 0 + (i : Int).toNat * 7 + k = i * 7 + k := fun k => by rw [Int.toNat_natCast]; omega
    have off0 : 0 + (i : Int).toNat * 7 = i * 7 + 0 := by rw [Int.toNat_natCast]; omega
    refine ⟨by unfold I64; omega, by omega, ptrK_intro g 0 rfl fun w G3 cx => ⟨by rw [off0]; exact l_canI cx hiB (by omega), fun w2 hw2 => ?_⟩⟩
    obtain ⟨csa, cxa⟩ := l_cellI (w' := w2) cx x1 hat (k := 0) (v := .int .i64 (next + i)) (by omega) (by rw [hx1]) (fun p c => by rw [hx1]; rfl) (fun hin => by rw [hx1]; exact ⟨by show I64 (next + i); unfold I64; omega, hin.batch, hin.time, hin.n, hin.cause, hin.why⟩) (by rw [hw2, off0])
    refine ⟨bufL (some ⟨g, 0, none⟩) x.l.length c1 csa :: (R ++ G), _, st0 csa (B.set i x1), cxa, ?_⟩
    clear cx cxa
    refine ⟨by omega, ptrK_intro g 0 rfl fun w G3 cx => ⟨by rw [off 1]; exact l_canI cx (ln2 x1) (by omega), fun w2 hw2 => ?_⟩⟩
    obtain ⟨csb, cxb⟩ := l_cellI (w' := w2) cx x2 (at2 x1) (k := 1) (v := .int .i64 nb) (by omega) (by rw [hx1, hx2]) (fun p c => by rw [hx1, hx2]; rfl) (fun hin => by rw [hx1] at hin; rw [hx2]; exact ⟨hin.no, hnb64, hin.time, hin.n, hin.cause, hin.why⟩) (by rw [hw2, off 1])
    rw [set2] at cxb
    refine ⟨bufL (some ⟨g, 0, none⟩) x.l.length c1 csb :: (R ++ G), _, st0 csb (B.set i x2), cxb, ?_⟩
    clear cx cxb
    refine ⟨bufL (some ⟨g, 0, none⟩) x.l.length c1 csb :: (R ++ G), _, st0 csb (B.set i x2), fun w G cx => cx, by omega, ptrK_intro g 0 rfl ⟨by unfold I64; omega, y.time, fun w G3 cx => ⟨y.time, by rw [off 2]; exact l_get cx (at2 x2) fun p c => by rw [hx2]; rfl, rfl⟩, fun w G3 cx => ?_⟩⟩
    refine (mod_g (n := y.time) (m := max (nm + 1) 1) (by omega) (by omega)).use cx fun w c => ⟨t, by rw [ht], bufL (some ⟨g, 0, none⟩) x.l.length c1 csb :: (R ++ G), _, st0 csb (B.set i x2), c, fun w G cx => cx, by omega, ptrK_intro g 0 rfl fun w G3 cx => ⟨by rw [off 2]; exact l_canI cx (ln2 x2) (by omega), fun w2 hw2 => ?_⟩⟩
    obtain ⟨csc, cxc⟩ := l_cellI (w' := w2) cx x3 (at2 x2) (k := 2) (v := .int .i64 t) (by omega) (by rw [hx2, hx3]) (fun p c => by rw [hx2, hx3]; rfl) (fun hin => by rw [hx2] at hin; rw [hx3]; exact ⟨hin.no, hin.batch, by show I64 t; unfold I64; omega, hin.n, hin.cause, hin.why⟩) (by rw [hw2, off 2])
    rw [set2] at cxc
    refine ⟨bufL (some ⟨g, 0, none⟩) x.l.length c1 csc :: (R ++ G), _, st0 csc (B.set i x3), cxc, ?_⟩
    clear cx cxc
    have done : ∀ (z : LineD) (cz : List Value), z = fitL next nb mark nm i y → ∃ (i2 : Nat) (cs : List Value), (i : Int) + 1 = i2 ∧ i2 ≤ x.l.length ∧ (bufL (some ⟨g, 0, none⟩) x.l.length c1 cz :: (R ++ G)) = bufL (some ⟨g, 0, none⟩) x.l.length c1 cs :: (R ++ G) ∧ (fun M w => Φ M w ∧ Elems M w cz (B.set i z)) = (fun M w => Φ M w ∧ Elems M w cs (midL next nb mark nm x.l i2)) ∧ x.l.length - (i + 1) = x.l.length - i2 := fun z cz hz => ⟨i + 1, cz, by omega, by omega, rfl, by rw [← hstep, hz], rfl⟩
    refine ⟨by omega, ptrK_intro g 0 rfl fun w G3 cx => ⟨y.cause, by rw [off 5]; exact l_get cx (at2 x3) fun p c => by rw [hx3]; rfl, ?_⟩⟩
    clear cx
    refine Br.intro (fun h4 => ?_) (fun h4 => ⟨by unfold I64; omega, _, _, x.l.length - (i + 1), st0 csc (B.set i x3), fun w G cx => cx, done x3 csc ?_, by omega⟩)
    · have h4 := of_decide_eq_true h4
      obtain ⟨x4, hx4⟩ : ∃ x4 : LineD, x4 = ⟨next + i, nb, t, y.row, y.n, 0, y.why⟩ := ⟨_, rfl⟩
      refine ⟨by omega, ptrK_intro g 0 rfl fun w G3 cx => ⟨by rw [off 5]; exact l_canI cx (ln2 x3) (by omega), fun w2 hw2 => ?_⟩⟩
      obtain ⟨csd, cxd⟩ := l_cellI (w' := w2) cx x4 (at2 x3) (k := 5) (v := .int .i64 0) (by omega) (by rw [hx3, hx4]) (fun p c => by rw [hx3, hx4]; rfl) (fun hin => by rw [hx3] at hin; rw [hx4]; exact ⟨hin.no, hin.batch, hin.time, hin.n, by show I64 0; unfold I64; omega, hin.why⟩) (by rw [hw2, off 5])
      rw [set2] at cxd
      refine ⟨bufL (some ⟨g, 0, none⟩) x.l.length c1 csd :: (R ++ G), _, st0 csd (B.set i x4), cxd, ?_⟩
      clear cx cxd
      refine ⟨by omega, ptrK_intro g 0 rfl fun w G3 cx => ⟨t, by rw [off 2]; exact l_get cx (at2 x4) fun p c => by rw [hx4]; rfl, ?_⟩⟩
      clear cx
      refine Br.intro (fun h5 => ?_) (fun h5 => ⟨by unfold I64; omega, _, _, x.l.length - (i + 1), st0 csd (B.set i x4), fun w G cx => cx, done x4 csd ?_, by omega⟩)
      · have h5 := of_decide_eq_true h5
        obtain ⟨x5, hx5⟩ : ∃ x5 : LineD, x5 = ⟨next + i, nb, t, y.row, y.n, 1, y.why⟩ := ⟨_, rfl⟩
        refine ⟨by omega, ptrK_intro g 0 rfl fun w G3 cx => ⟨by rw [off 5]; exact l_canI cx (ln2 x4) (by omega), fun w2 hw2 => ?_⟩⟩
        obtain ⟨cse, cxe⟩ := l_cellI (w' := w2) cx x5 (at2 x4) (k := 5) (v := .int .i64 1) (by omega) (by rw [hx4, hx5]) (fun p c => by rw [hx4, hx5]; rfl) (fun hin => by rw [hx4] at hin; rw [hx5]; exact ⟨hin.no, hin.batch, hin.time, hin.n, by show I64 1; unfold I64; omega, hin.why⟩) (by rw [hw2, off 5])
        rw [set2] at cxe
        refine ⟨bufL (some ⟨g, 0, none⟩) x.l.length c1 cse :: (R ++ G), _, st0 cse (B.set i x5), cxe, by unfold I64; omega, _, _, x.l.length - (i + 1), st0 cse (B.set i x5), fun w G cx => cx, done x5 cse ?_, by omega⟩
        rw [hx5]
        unfold fitL
        rw [ht, if_pos h4, if_pos h5]
      · rw [hx4]
        unfold fitL
        rw [ht, if_pos h4, if_neg (of_decide_eq_false h5)]
    · rw [hx3]
      unfold fitL
      rw [ht, if_neg (of_decide_eq_false h4)]
  · have hge : i = x.l.length := by have := of_decide_eq_false hge; omega
    subst hge
    have hmE : midL next nb mark nm x.l x.l.length = fitLs next nb mark nm x.l := by
      unfold midL
      rw [List.drop_length, List.append_nil, ← fitLs_len next nb mark nm x.l, List.take_length]
    rw [hmE] at cx
    have cx := cx.left
    obtain ⟨_, k1, k2⟩ := cx.bufLen 0 rfl
    obtain ⟨cx3, hs, _⟩ := Ctx.freeze (α := LineD) cx cx.phi.2
    have hl := fitLs_len next nb mark nm x.l
    refine ⟨nb, nm, p1, x.l.length, c1, x.fit, rfl, R, (fun M w => Φ M w ∧ Sl M w p1 (fitLs next nb mark nm x.l)), inferInstance, (cx3.add (Ψ := fun M w => Sl M w p1 (fitLs next nb mark nm x.l)) hs).weak fun M w h => ⟨h.1.1, h.2⟩, ?_⟩
    rw [hl] at h
    rw [hf]
    exact h p1 c1 k1 k2 (by have := hs.there; rw [hl] at this; exact this) inferInstance
end
end Go.Proofs.YtbkpfhhhbhaecaaGreatDoor
end

/-
  Bounds of pushes; the reference's net; multisets; counts and causes; a new ledger. (The first parts are those of the texts Ef, Eg and Ex of the seat of DeltaCounts.)
-/
section
set_option linter.unusedVariables false
set_option linter.unusedSimpArgs false
namespace Go.Proofs.YtbkpfhhhbhaecaaGreatDoor
open Go.Vc


/-! ### of the others' texts -/
def multiP (l : List DeltaD) : Bool := !(consP l).any fun x => decide (x.n < 0)

/-! ### walked -/
section
variable {Φ : PW} {q : LP} {st : LedD} {W w : World} {R S G : List Own} {p : Option Addr} {cap : Nat}

theorem Short41_in [Stable Φ] {l : List LineD} {cs : List Value} {n : Int} (src : Src [] Φ p l cs) (hlen : l.length ≤ maxLen) : GivesIn Φ Tryz.prog F.errataref41_Short #[.slice p l.length cap, .int .i64 n] (.bool (shortL l n)) := by
  refine ⟨fun W0 w0 S0 c0 => GivesIn.go (gives_in (Berrataref41_Short_run p l.length cap n) fun W R => ?_) W0 w0 S0 c0⟩
  have hc : Rows7 cs l := rows7 (src.el _ _ c0.phi)
  clear c0
  refine exI_mk (fun n R' Φ' k => ∃ i : Nat, n = i ∧ i ≤ l.length ∧ R' = R ∧ Φ' = Φ ∧ k = l.length - i ∧ (l.take i).all (fun x => shortB x.row 13) = true) ⟨⟨R, Φ, _, inferInstance, fun w F c => c, 0, rfl, Nat.zero_le _, rfl, rfl, rfl, rfl⟩, ?_⟩
  rintro n1 R1 Φ1 k _ ⟨i, rfl, hi, rfl, rfl, rfl, hs⟩
  refine Br.intro (fun hlt => ?_) (fun hge => fun w G cx => ⟨?_, cx.left⟩)
  · have hlt : i < l.length := by have := of_decide_eq_true hlt; omega
    obtain ⟨b, o, hp⟩ := src.ptr (by omega)
    obtain ⟨r, rc, he, h1, h2, _⟩ := hc i hlt
    have hh : Has Φ1 (fun M w => Sl M w r l[i].row) := ⟨fun M w h => src_sl src hlt he h⟩
    refine ⟨by omega, ptrK_intro b o hp fun w G cx => ⟨r, l[i].row.length, rc, ?_, fun w G cx => (Short_in (r := l[i].row) (by omega)).toB cx ?_⟩⟩
    · have := src_at (G := R1 ++ G) src hp cx he 3 (by simp)
      rw [Int.toNat_natCast]
      exact this
    clear cx
    refine Br.intro (fun h => fun w G cx => ⟨?_, cx.left⟩) (fun h => ⟨by unfold I64; unfold maxLen at hlen; omega, R1, Φ1, l.length - (i + 1), inferInstance, fun w G cx => cx, ⟨i + 1, rfl, hlt, rfl, rfl, rfl, ?_⟩, by omega⟩)
    · have h : shortB l[i].row 13 = false := by simpa using h
      unfold shortL
      rw [List.all_eq_false.2 ⟨l[i], List.getElem_mem _, by rw [h]; simp⟩]; rfl
    · have h : shortB l[i].row 13 = true := by simpa using h
      rw [List.take_succ_eq_append_getElem hlt, List.all_append, hs]
      simp [h]
  · have hge : i = l.length := by have := of_decide_eq_false hge; omega
    subst hge
    rw [List.take_length] at hs
    unfold shortL
    rw [hs, Bool.true_and]

theorem Short41_sl [Stable Φ] {l : List LineD} {n : Int} [hΦ : Has Φ (fun M w => Sl M w p l)] (hlen : l.length ≤ maxLen) : GivesIn Φ Tryz.prog F.errataref41_Short #[.slice p l.length cap, .int .i64 n] (.bool (shortL l n)) :=
  .there (fun M w h => (hΦ.go M w h).there) fun hth => ⟨fun W w S c => by
    obtain ⟨cs, c1⟩ := srcOf c (hΦ.go _ _ c.phi)
    exact (Short41_in (Φ := fun M w => Φ M w ∧ SrcF p l cs M w) (src_fact (Φ := fun M w => Φ M w ∧ SrcF p l cs M w) hth (fun M w h => h.2)) hlen).use c1 fun w' c => ⟨rfl, c.fst⟩⟩

/-! ### pushes -/
theorem pin_push {M : List Nat} {w : World} {b o : Nat} {cs : List (List Value)} {l : List PushD} (h : Pin b o cs l M w) {j : Nat} (hj : j < l.length) : ∃ p c, cs.getD j [] = l[j].cells p c ∧ l[j].l.length ≤ c ∧ c ≤ maxLen ∧ I64 l[j].batch ∧ I64 l[j].mark := by
  obtain ⟨_, h1, h2⟩ := h j hj
  obtain ⟨p, c, e, g1, g2, g3, g4, _⟩ := push_cells h2
  exact ⟨p, c, e, g1, g2, g3, g4⟩
theorem pinp_sl {M : List Nat} {w : World} {b o : Nat} {cs : List (List Value)} {l : List PushD} (h : Pin b o cs l M w) {j : Nat} (hj : j < l.length) {p : Option Addr} {c : Nat} (e : cs.getD j [] = l[j].cells p c) : Sl M w p l[j].l := by
  have := (h j hj).2.2
  rw [e] at this
  obtain ⟨p', c', e', _, _, _, _, h1⟩ := push_cells this
  simp only [PushD.cells, List.cons.injEq, Value.slice.injEq] at e'
  rw [e'.2.2.1.1]
  exact h1
theorem pinp_rowAt {M : List Nat} {w : World} {b o : Nat} {cs : List (List Value)} {l : List PushD} (h : Pin b o cs l M w) {j : Nat} (hj : j < l.length) {p : Option Addr} {c : Nat} (e : cs.getD j [] = l[j].cells p c) : RowAt w b (o + j * 4) (l[j].cells p c) := by
  have := (h j hj).2.1
  rw [e] at this
  exact this

theorem Few41_in [Stable Φ] {l : List PushD} {n : Int} {g o : Nat} {cs : List (List Value)} (hp : 0 < l.length → p = some ⟨g, o, none⟩) (hP : ∀ M w, Φ M w → Pin g o cs l M w) (hlen : l.length ≤ maxLen) : GivesIn Φ Tryz.prog F.erratalaw41_few #[.slice p l.length cap, .int .i64 n] (.bool (fewL l n)) := by
  refine ⟨fun W0 w0 S0 c0 => GivesIn.go (gives_in (Berratalaw41_few_run p l.length cap n) fun W R => ?_) W0 w0 S0 c0⟩
  have hc : ∀ j (hj : j < l.length), ∃ p c, cs.getD j [] = l[j].cells p c ∧ l[j].l.length ≤ c ∧ c ≤ maxLen ∧ I64 l[j].batch ∧ I64 l[j].mark := fun j hj => pin_push (hP _ _ c0.phi) hj
  clear c0
  refine exI_mk (fun n R' Φ' k => ∃ i : Nat, n = i ∧ i ≤ l.length ∧ R' = R ∧ Φ' = Φ ∧ k = l.length - i ∧ (l.take i).all (fun x => shortL x.l 12) = true) ⟨⟨R, Φ, _, inferInstance, fun w F c => c, 0, rfl, Nat.zero_le _, rfl, rfl, rfl, rfl⟩, ?_⟩
  rintro n1 R1 Φ1 k _ ⟨i, rfl, hi, rfl, rfl, rfl, hs⟩
  refine Br.intro (fun hlt => ?_) (fun hge => fun w G cx => ⟨?_, cx.left⟩)
  · have hlt : i < l.length := by have := of_decide_eq_true hlt; omega
    obtain ⟨r, rc, he, h1, h2, _⟩ := hc i hlt
    have hh : Has Φ1 (fun M w => Sl M w r l[i].l) := ⟨fun M w h => pinp_sl (hP M w h) hlt he⟩
    refine ⟨by omega, ptrK_intro g o (hp (by omega)) fun w G cx => ⟨r, l[i].l.length, rc, ?_, fun w G cx => (Short41_sl (l := l[i].l) (n := 12) (by omega)).toB cx ?_⟩⟩
    · have := pinp_rowAt (hP _ _ cx.phi) hlt he 2 (by simp)
      rw [Int.toNat_natCast]
      exact this
    clear cx
    refine Br.intro (fun h => fun w G cx => ⟨?_, cx.left⟩) (fun h => ⟨by unfold I64; unfold maxLen at hlen; omega, R1, Φ1, l.length - (i + 1), inferInstance, fun w G cx => cx, ⟨i + 1, rfl, hlt, rfl, rfl, rfl, ?_⟩, by omega⟩)
    · have h : shortL l[i].l 12 = false := by simpa using h
      unfold fewL
      rw [List.all_eq_false.2 ⟨l[i], List.getElem_mem _, by rw [h]; simp⟩]; rfl
    · have h : shortL l[i].l 12 = true := by simpa using h
      rw [List.take_succ_eq_append_getElem hlt, List.all_append, hs]
      simp [h]
  · have hge : i = l.length := by have := of_decide_eq_false hge; omega
    subst hge
    rw [List.take_length] at hs
    unfold fewL
    rw [hs, Bool.true_and]

/-! ### the reference's net -/
/-! ### a ledger's own -/
theorem Count_q [Stable Φ] {t : Int} {r : List ValD} [hT : Has Φ TabI] [hR : Has Φ (fun M w => Sl M w p r)] (hq : LedQ q st) (hlen : r.length ≤ 1000000) (htx : ∀ v ∈ r, v.text.size ≤ 10000) :
    GivesQ (LedO q st) Φ Tryz.prog F.ledger_Ledger_Count #[led q, .int .i64 t, .slice p r.length cap] (.int .i64 (cntL st.lines (t, rowB r))) := by
  refine gives_q (Bledger_Ledger_Count_run q.lb 0 t p r.length cap) fun W R => ⟨LedO q st ++ R, Φ, inferInstance, fun w G cx => cx, some q.mb, fun w G cx => ⟨some q.mb, led_cell (i := 2) cx rfl, rfl⟩, fun w G cx => ?_⟩
  refine (RowBytes_in p cap r hT.go hR.go hlen htx).toS cx ⟨fun w G cx => cx, getM q.es (t, rowB r), fun w G cx => ⟨_, fun w2 hw2 => run_lookupM keyTy (by rw [hw2]; exact led_map cx) (t, rowB r), rfl⟩, fun w G cx => ⟨?_, cx.left⟩⟩
  rw [hq.cnt]

theorem Causes_to [Stable Φ] (cx : Ctx W w ((LedO q st ++ R) ++ G) Φ) {K : Int → Int → Int → List Own → PW → Prop} (hk : K (caus st.lines 0) (caus st.lines 1) (caus st.lines 2) (LedO q st ++ R) Φ) :
    Calls Tryz.prog F.ledger_Ledger_Causes #[led q] w fun e w' => ∃ a b c, e = .returned (.tuple #[.int .i64 a, .int .i64 b, .int .i64 c]) ∧ ∃ R' Φ', Stable Φ' ∧ Ctx W w' (R' ++ G) Φ' ∧ K a b c R' Φ' := by
  refine (Bledger_Ledger_Causes_run q.lb 0 (R := (LedO q st ++ R) ++ G) (J := fun v w' => v = .tuple #[.int .i64 (caus st.lines 0), .int .i64 (caus st.lines 1), .int .i64 (caus st.lines 2)] ∧ Ctx W w' ((LedO q st ++ R) ++ G) Φ) cx ?_).mono fun e w' ⟨v, he, hv, c'⟩ => ⟨_, _, _, by rw [he, hv], _, Φ, inferInstance, c', hk⟩
  exact fun w G2 cx => ⟨by omega, _, cx.get 0 (i := 3) rfl rfl, by omega, _, cx.get 0 (i := 4) rfl rfl, by omega, _, cx.get 0 (i := 5) rfl rfl, fun w G3 cx => ⟨rfl, cx.left⟩⟩

theorem new_q {b m : Nat} : LedQ ⟨b, none, 0, [], none, 0, m, [], 0⟩ ⟨[], []⟩ where
  map := ⟨List.Pairwise.nil, List.Pairwise.nil, by simp⟩
  cnt := fun k => rfl
  lpt := fun h => by simp at h
  bpt := fun h => by simp at h
  lcap := ⟨Nat.le_refl _, Nat.zero_le _⟩
  cells := fun i h => by simp at h
  len := rfl
theorem new_s : LedS ⟨[], []⟩ := ⟨by simp, by simp, by simp, by simp, by simp⟩
theorem New_to [Stable Φ] (c : Ctx W w (R ++ G) Φ) {K : Option Addr → List Own → PW → Prop}
    (hk : ∀ q : LP, LedQ q ⟨[], []⟩ → Stable (fun M w => Φ M w ∧ LF q ⟨[], []⟩ M w) → K (some ⟨q.lb, 0, none⟩) (LedO q ⟨[], []⟩ ++ R) (fun M w => Φ M w ∧ LF q ⟨[], []⟩ M w)) :
    Calls Tryz.prog F.ledger_New #[] w fun e w' => ∃ p, e = .returned (.pointer p) ∧ ∃ R' Φ', Stable Φ' ∧ Ctx W w' (R' ++ G) Φ' ∧ K p R' Φ' := by
  refine (Bledger_New_run (R := R ++ G) (J := fun v w' => ∃ p, v = .pointer p ∧ ∃ R' Φ', Stable Φ' ∧ Ctx W w' (R' ++ G) Φ' ∧ K p R' Φ') c ?_).mono fun e w' ⟨v, he, p, hv, rest⟩ => ⟨p, by rw [he, hv], rest⟩
  intro k0 k1 w2 G2 cx
  have cx := Ctx.left (S := .blk k1 _ 79 :: .obj k0 (.map #[] 0) :: (R ++ G)) cx
  have c2 := (cx.nobuf 86 3)
  have c3 := c2.nobuf 51 7
  have c4 : Ctx W w2 (.blk k1 [.slice none 0 0, .slice none 0 0, .map (some k0), .int .i64 0, .int .i64 0, .int .i64 0] 79 :: .buf none 0 0 [] 51 7 :: .buf none 0 0 [] 86 3 :: .obj k0 (.map #[] 0) :: (R ++ G)) Φ := c3.perm (List.perm_middle (l₁ := [_, _]) (a := _))
  exact ⟨_, rfl, LedO ⟨k1, none, 0, [], none, 0, k0, [], 0⟩ ⟨[], []⟩ ++ R, _, instStableAnd Φ (fun M w => Elems M w [] ([] : List LineD)), c4.weak fun M w h => ⟨h, Elems.nil⟩, hk ⟨k1, none, 0, [], none, 0, k0, [], 0⟩ new_q (instStableAnd Φ (fun M w => Elems M w [] ([] : List LineD)))⟩
end
end Go.Proofs.YtbkpfhhhbhaecaaGreatDoor
end

/-
  Append of lines that facts tell of; the examples of the law.
-/
section
set_option linter.unusedVariables false
set_option linter.unusedSimpArgs false
namespace Go.Proofs.YtbkpfhhhbhaecaaGreatDoor
open Go.Vc


theorem app_s {st : LedD} {no mark : Int} {L : List LineD} (hs : LedS st) (hr : ∀ x ∈ L, x.row.length ≤ 13) (ht : ∀ x ∈ L, ∀ v ∈ x.row, v.text.size ≤ 300) (h1 : (st.lines ++ L).length ≤ 150000) (h2 : st.bats.length + 1 ≤ 600000) : LedS (appP st no mark L) where
  lines := h1
  bats := by show (st.bats ++ [_]).length ≤ _; rw [List.length_append]; exact h2
  row := fun x hx => (List.mem_append.1 hx).elim (hs.row x) (hr x)
  text := fun x hx => (List.mem_append.1 hx).elim (hs.text x) (ht x)
  stop := fun b hb => by
    show b.stop ≤ (st.lines ++ L).length
    rcases List.mem_append.1 hb with h | h
    · have := hs.stop b h
      rw [List.length_append]; omega
    · rw [List.mem_singleton.1 h]; exact Nat.le_refl _
theorem app_bats {st : LedD} {no mark : Int} {L : List LineD} (hs : LedS st) (hb : BatsOk st) (h1 : I64 no) (h2 : I64 mark) : BatsOk (appP st no mark L) := by
  refine ⟨fun i hi => ?_, fun b hm => ?_⟩
  · have hi : i < (st.bats ++ [(⟨no, mark, (st.lines ++ L).length⟩ : BatD)]).length := hi
    show begP (st.bats ++ [(⟨no, mark, (st.lines ++ L).length⟩ : BatD)]) i ≤ (st.bats ++ [(⟨no, mark, (st.lines ++ L).length⟩ : BatD)])[i].stop
    rw [List.length_append, List.length_singleton] at hi
    have e : begP (st.bats ++ [(⟨no, mark, (st.lines ++ L).length⟩ : BatD)]) i = begP st.bats i := by
      unfold begP
      by_cases h0 : i = 0
      · rw [if_pos h0, if_pos h0]
      · rw [if_neg h0, if_neg h0, List.getElem?_append_left (by omega)]
    rw [e]
    by_cases hlt : i < st.bats.length
    · rw [List.getElem_append_left hlt]
      exact hb.1 i hlt
    · have hie : i = st.bats.length := by omega
      subst hie
      rw [List.getElem_append_right (Nat.le_refl _)]
      simp only [Nat.sub_self, List.getElem_cons_zero]
      unfold begP
      split
      · exact Nat.zero_le _
      · rw [List.getElem?_eq_getElem (by omega)]
        have := hs.stop _ (List.getElem_mem (l := st.bats) (n := st.bats.length - 1) (by omega))
        rw [List.length_append]
        show st.bats[st.bats.length - 1].stop ≤ _
        omega
  · rcases List.mem_append.1 hm with h | h
    · exact hb.2 b h
    · rw [List.mem_singleton.1 h]; exact ⟨h1, h2⟩

section
variable {Φ : PW} {q : LP} {st : LedD} {W w : World} {R S G : List Own} {p r : Option Addr} {cap cap2 : Nat}

theorem EqualH [Stable Φ] {a b : List DeltaD} [hΦ : Has Φ (fun M w => Sl M w p a)] [hΨ : Has Φ (fun M w => Sl M w r b)] (hlen : a.length ≤ 1000000) :
    GivesIn Φ Tryz.prog F.errataref28_Equal #[.slice p a.length cap, .slice r b.length cap2] (.bool (decide (a = b))) := Equal_in p cap a r cap2 b hΦ.go hΨ.go (by omega)

theorem Append_to [Stable Φ] {no mark : Int} {L : List LineD} [hT : Has Φ TabI] [hF : Has Φ (LF q st)] [hL : Has Φ (fun M w => Sl M w p L)] (hq : LedQ q st) (hs : LedS st) (hk : CntOk st) (hlen : L.length ≤ 150000) (hrow : ∀ x ∈ L, x.row.length ≤ 1000000)
    (c : Ctx W w ((LedO q st ++ R) ++ G) Φ) {K : Int → List Own → PW → Prop}
    (h0 : checkP st no mark L ≠ 0 → K (checkP st no mark L) (LedO q st ++ R) Φ)
    (h1 : ∀ q', checkP st no mark L = 0 → RowsFit L → q'.lb = q.lb → LedQ q' (appP st no mark L) → Stable (fun M w => Φ M w ∧ LF q' (appP st no mark L) M w) → K 0 (LedO q' (appP st no mark L) ++ R) (fun M w => Φ M w ∧ LF q' (appP st no mark L) M w)) :
    Calls Tryz.prog F.ledger_Ledger_Append #[led q, .int .i64 no, .int .i64 mark, .slice p L.length cap] w fun e w' => ∃ n, e = .returned (.int .i64 n) ∧ ∃ R' Φ', Stable Φ' ∧ Ctx W w' (R' ++ G) Φ' ∧ K n R' Φ' := by
  have hth := (hL.go _ _ c.phi).there
  obtain ⟨cs, c1⟩ := srcOf c (hL.go _ _ c.phi)
  refine (Append_use (Φ := fun M w => Φ M w ∧ SrcF p L cs M w) hq hs hk (src_fact hth fun M w h => h.2) hlen hrow c1 (K := fun n R' Φ' => ∃ Φ2, Stable Φ2 ∧ (∀ M w, Φ' M w → Φ2 M w) ∧ K n R' Φ2)
    (fun hz => ⟨Φ, inferInstance, fun M w h => h.1, h0 hz⟩) (fun q' hz hf hlb hq' _ => ⟨_, inferInstance, fun M w h => ⟨h.1.1, h.2⟩, h1 q' hz hf hlb hq' inferInstance⟩)).mono fun e w' ⟨n, he, R', Φ', hst, cx, Φ2, hst2, hw, hK⟩ => ⟨n, he, R', Φ2, hst2, cx.weak hw, hK⟩
end

/-! ### small -/
abbrev v7 : List ValD := [⟨0, 7, ByteArray.mk #[]⟩]
abbrev v8 : List ValD := [⟨0, 8, ByteArray.mk #[]⟩]
abbrev sL1 : List LineD := [⟨1, 1, 5, v7, 2, 0, 0⟩]
abbrev sL2 : List LineD := [⟨2, 3, 5, v7, -1, 1, 0⟩, ⟨3, 3, 12, v8, 1, 0, 0⟩]
abbrev sL3 : List LineD := [⟨4, 4, 5, v7, -2, 1, 0⟩]
abbrev sT1 : LedD := appP ⟨[], []⟩ 1 10 sL1
abbrev sT2 : LedD := appP sT1 3 20 sL2
theorem s_c1 : checkP ⟨[], []⟩ 1 10 sL1 = 0 := by decide +kernel
theorem s_c2 : checkP sT1 3 20 sL2 = 0 := by decide +kernel
theorem s_c3 : checkP sT2 4 20 sL3 = 7 := by decide +kernel
theorem s_cnt : cntL sT2.lines (5, rowB v7) = 1 := by decide +kernel
theorem s_net : netP sT2.lines = [⟨5, v7, 1⟩, ⟨12, v8, 1⟩] := by decide +kernel
theorem s_at : netP (sT2.lines.take (endP sT2.bats 1 0)) = [⟨5, v7, 2⟩] := by decide +kernel
theorem v7_rep {M : List Nat} {w : World} : Gv.rep M w [.int .i64 0, .int .i64 7, .string (ByteArray.mk #[])] (⟨0, 7, ByteArray.mk #[]⟩ : ValD) := val_rep (v := ⟨0, 7, ByteArray.mk #[]⟩) (by unfold I64; decide)
theorem v8_rep {M : List Nat} {w : World} : Gv.rep M w [.int .i64 0, .int .i64 8, .string (ByteArray.mk #[])] (⟨0, 8, ByteArray.mk #[]⟩ : ValD) := val_rep (v := ⟨0, 8, ByteArray.mk #[]⟩) (by unfold I64; decide)
end Go.Proofs.YtbkpfhhhbhaecaaGreatDoor
end

/-
  The examples of the law of ledgers, walked.
-/
section
set_option linter.unusedVariables false
set_option linter.unusedSimpArgs false
namespace Go.Proofs.YtbkpfhhhbhaecaaGreatDoor
open Go.Vc


theorem Ctx.rev3 {W w : World} {S : List Own} {Φ : PW} [Stable Φ] {a b x : Own} (c : Ctx W w (a :: b :: x :: S) Φ) : Ctx W w (x :: b :: a :: S) Φ := c.perm (List.Perm.append_right S (List.reverse_perm [x, b, a]))
theorem line_s {M : List Nat} {w : World} {no b t n c : Int} {r : List ValD} {k : Nat} (hr : r.length = 1) (h : I64 no ∧ I64 b ∧ I64 t ∧ I64 n ∧ I64 c) (hs : Sl M w (some ⟨k, 0, none⟩) r) :
    Gv.rep M w [.int .i64 no, .int .i64 b, .int .i64 t, .slice (some ⟨k, 0, none⟩) 1 1, .int .i64 n, .int .i64 c, .int .i64 0] (⟨no, b, t, r, n, c, 0⟩ : LineD) := by
  have := rep_line (x := ⟨no, b, t, r, n, c, 0⟩) (p := some ⟨k, 0, none⟩) (c := 1) (M := M) (w := w) (by show r.length ≤ 1; omega) (by decide) ⟨h.1, h.2.1, h.2.2.1, h.2.2.2.1, h.2.2.2.2, by show I64 0; unfold I64; omega⟩ hs
  unfold LineD.cells at this
  simp only [hr] at this
  exact this
theorem delta_s {M : List Nat} {w : World} {t n : Int} {r : List ValD} {k : Nat} (hr : r.length = 1) (h : I64 t ∧ I64 n) (hs : Sl M w (some ⟨k, 0, none⟩) r) :
    Gv.rep M w [.int .i64 t, .slice (some ⟨k, 0, none⟩) 1 1, .int .i64 n] (⟨t, r, n⟩ : DeltaD) := by
  have := rep_delta (x := ⟨t, r, n⟩) (p := some ⟨k, 0, none⟩) (c := 1) (M := M) (w := w) (by show r.length ≤ 1; omega) (by decide) h.1 h.2 hs
  unfold DeltaD.cells at this
  simp only [hr] at this
  exact this
theorem s_s1 : LedS sT1 := ⟨by decide, by decide, by decide, by decide, by decide⟩
theorem s_s2 : LedS sT2 := ⟨by decide, by decide, by decide, by decide, by decide⟩
theorem s_cnt0 : CntOk ⟨[], []⟩ := fun k => ⟨Int.le_refl 0, by show (0 : Int) ≤ _; omega⟩

set_option maxHeartbeats 4000000 in
theorem small41_in {Φ : PW} [Stable Φ] [hT : Has Φ TabI] : GivesIn Φ Tryz.prog F.erratalaw41_small #[] (.bool true) := by
  refine gives_in (Berratalaw41_small_run) fun W R => ?_
  refine fun w G cx => New_to cx fun q hq st0 => Br.intro (fun h => by cases h) (fun _ => fun k9 k10 k11 w G cx => ?_)
  have cx := Ctx.rev3 (S := (LedO q ⟨[], []⟩ ++ R) ++ G) cx
  obtain ⟨ca, ha⟩ := Ctx.freezeBlk (α := ValD) (l := v7) cx (Elems.one v7_rep)
  have ca := ca.add (Ψ := fun M w => Sl M w (some ⟨k9, 0, none⟩) v7) ha
  obtain ⟨cb, hb⟩ := Ctx.freezeBlk (α := ValD) (l := v8) ca (Elems.one v8_rep)
  have cb := cb.add (Ψ := fun M w => Sl M w (some ⟨k10, 0, none⟩) v8) hb
  obtain ⟨cc, hc⟩ := Ctx.freezeBlk (α := LineD) (l := sL1) cb (Elems.one (line_s rfl (by unfold I64; decide) cb.phi.1.2))
  have cc := cc.add (Ψ := fun M w => Sl M w (some ⟨k11, 0, none⟩) sL1) hc
  clear cx ca ha cb hb hc
  refine Append_to (q := q) (st := ⟨[], []⟩) (L := sL1) (no := 1) (mark := 10) hq new_s s_cnt0 (by decide) (by decide) cc (fun h => absurd s_c1 h) fun q1 _ hf1 hlb1 hq1 st1 => ?_
  clear cc
  have hc1 : CntOk sT1 := (check_ok s_c1).cnt hf1 s_cnt0
  have hq1 : LedQ q1 sT1 := hq1
  rw [← hlb1]
  refine fun k19 w G cx => ?_
  obtain ⟨cd, hd⟩ := Ctx.freezeBlk (α := LineD) (l := sL2) cx (Elems.two (cs := [.int .i64 2, .int .i64 3, .int .i64 5, .slice (some ⟨k9, 0, none⟩) 1 1, .int .i64 (-1), .int .i64 1, .int .i64 0]) (line_s rfl (by unfold I64; decide) (Ctx.has (Ψ := fun M w => Sl M w (some ⟨k9, 0, none⟩) v7) cx).phi) (line_s rfl (by unfold I64; decide) (Ctx.has (Ψ := fun M w => Sl M w (some ⟨k10, 0, none⟩) v8) cx).phi))
  have cd := cd.add (Ψ := fun M w => Sl M w (some ⟨k19, 0, none⟩) sL2) hd
  clear cx hd
  refine Append_to (q := q1) (st := sT1) (L := sL2) (no := 3) (mark := 20) hq1 s_s1 hc1 (by decide) (by decide) cd (fun h => absurd s_c2 h) fun q2 _ hf2 hlb2 hq2 st2 => ?_
  clear cd
  have hc2 : CntOk sT2 := (check_ok s_c2).cnt hf2 hc1
  have hq2 : LedQ q2 sT2 := hq2
  rw [← hlb2]
  refine fun k27 w G cx => ?_
  obtain ⟨ce, he⟩ := Ctx.freezeBlk (α := LineD) (l := sL3) cx (Elems.one (line_s rfl (by unfold I64; decide) (Ctx.has (Ψ := fun M w => Sl M w (some ⟨k9, 0, none⟩) v7) cx).phi))
  have ce := ce.add (Ψ := fun M w => Sl M w (some ⟨k27, 0, none⟩) sL3) he
  clear cx he
  refine Append_to (q := q2) (st := sT2) (L := sL3) (no := 4) (mark := 20) hq2 s_s2 hc2 (by decide) (by decide) ce (fun _ => ?_) fun q3 hz => absurd (hz.symm.trans s_c3) (by decide)
  clear ce
  rw [s_c3]
  refine fun w G cx => Causes_to (q := q2) (st := sT2) cx ?_
  clear cx
  refine Br.intro (fun _ => Br.intro (fun _ => Br.intro (fun _ => ?_) (fun h => absurd rfl (of_decide_eq_false h))) (fun h => absurd rfl (of_decide_eq_false h))) (fun h => absurd rfl (of_decide_eq_false h))
  have hcq := fun (Ψ : PW) (s : Stable Ψ) (h1 : Has Ψ TabI) (h2 : Has Ψ (fun M w => Sl M w (some ⟨k9, 0, none⟩) v7)) => Count_q (Φ := Ψ) (q := q2) (st := sT2) (t := 5) (r := v7) (p := some ⟨k9, 0, none⟩) (cap := 1) hq2 (by decide) (by decide)
  rw [s_cnt] at hcq
  refine fun w G cx => (hcq _ inferInstance inferInstance inferInstance).toI cx ?_
  clear cx hcq
  refine Br.intro (fun _ => Br.intro (fun _ => Br.intro (fun _ => Br.intro (fun _ => ?_) (fun h => absurd rfl (of_decide_eq_false h))) (fun h => absurd rfl (of_decide_eq_false h))) (fun h => absurd rfl (of_decide_eq_false h))) (fun h => absurd rfl (of_decide_eq_false h))
  have hnq := fun (Ψ : PW) (s : Stable Ψ) (h1 : Has Ψ (LF q2 sT2)) => Net_q (Φ := Ψ) (q := q2) (st := sT2) hq2 s_s2
  rw [s_net] at hnq
  refine fun w G cx => (hnq _ inferInstance inferInstance).tot cx fun p1 c1 _ _ _ st3 => ?_
  clear cx hnq
  refine fun k60 w G cx => ?_
  obtain ⟨cf, hf⟩ := Ctx.freezeBlk (α := DeltaD) (l := [⟨5, v7, 1⟩, ⟨12, v8, 1⟩]) cx (Elems.two (cs := [.int .i64 5, .slice (some ⟨k9, 0, none⟩) 1 1, .int .i64 1]) (delta_s rfl (by unfold I64; decide) (Ctx.has (Ψ := fun M w => Sl M w (some ⟨k9, 0, none⟩) v7) cx).phi) (delta_s rfl (by unfold I64; decide) (Ctx.has (Ψ := fun M w => Sl M w (some ⟨k10, 0, none⟩) v8) cx).phi))
  have cf := cf.add (Ψ := fun M w => Sl M w (some ⟨k60, 0, none⟩) ([⟨5, v7, 1⟩, ⟨12, v8, 1⟩] : List DeltaD)) hf
  clear cx hf
  refine (EqualH (a := [⟨5, v7, 1⟩, ⟨12, v8, 1⟩]) (b := [⟨5, v7, 1⟩, ⟨12, v8, 1⟩]) (p := p1) (cap := c1) (r := some ⟨k60, 0, none⟩) (cap2 := 2) (by decide)).toB cf ?_
  clear cf
  rw [decide_eq_true rfl]
  refine Br.intro (fun _ => ?_) (fun h => by cases h)
  have haq := fun (Ψ : PW) (s : Stable Ψ) (h1 : Has Ψ (LF q2 sT2)) => At_q (Φ := Ψ) (q := q2) (st := sT2) (no := 1) hq2 s_s2
  rw [s_at] at haq
  refine fun w G cx => (haq _ inferInstance inferInstance).tot cx fun p2 c2 _ _ _ st4 => ?_
  clear cx haq
  refine fun k77 w G cx => ?_
  obtain ⟨cg, hg⟩ := Ctx.freezeBlk (α := DeltaD) (l := [⟨5, v7, 2⟩]) cx (Elems.one (delta_s rfl (by unfold I64; decide) (Ctx.has (Ψ := fun M w => Sl M w (some ⟨k9, 0, none⟩) v7) cx).phi))
  have cg := cg.add (Ψ := fun M w => Sl M w (some ⟨k77, 0, none⟩) ([⟨5, v7, 2⟩] : List DeltaD)) hg
  clear cx hg
  refine (EqualH (a := [⟨5, v7, 2⟩]) (b := [⟨5, v7, 2⟩]) (p := p2) (cap := c2) (r := some ⟨k77, 0, none⟩) (cap2 := 1) (by decide)).toB cg ?_
  clear cg
  rw [decide_eq_true rfl]
  exact fun w G cx => ⟨rfl, Ctx.has (Ctx.right (S := LedO q2 sT2) (cx.re (List.append_assoc _ _ _))).left⟩
end Go.Proofs.YtbkpfhhhbhaecaaGreatDoor
end

/-
  The step 'fitted(l[i], a.Last(), a.Mark(), a.Next())' of the laws of ledgers (printed by fittree.py).
-/
section
set_option linter.unusedVariables false
set_option linter.unusedSimpArgs false
namespace Go.Proofs.YtbkpfhhhbhaecaaGreatDoor
open Go.Vc

def FitTree (lP : Option Addr) (lN : Nat) (n13 : Int) (p4 : Option Addr) (W : World) (R14 : List Own) (I15 : PW) (I19 : Nat → Nat → List Own → PW → Prop) : Prop :=
  ∃ (R20 : List Own), ∃ (Φ21 : PW), Stable Φ21 ∧ (∀ (w22 : World) (R23 : List Own), Ctx W w22 (R14 ++ R23) I15 → Ctx W w22 (R20 ++ R23) Φ21) ∧ (0 ≤ n13 ∧
  n13 < (↑lN : Int)) ∧ ptrK none lP fun (k24 k25 : Nat) => ∃ (n26 : Int), ∃ (n27 : Int), ∃ (p28 : Option Addr), ∃ (k29 : Nat), ∃ (k30 : Nat), ∃ (c31 : Bool),
  (∀ (w32 : World) (R33 : List Own), Ctx W w32 (R20 ++ R33) Φ21 → ∃ (n34 : Int), ∃ (n35 : Int), ∃ (p36 : Option Addr), ∃ (k37 : Nat), ∃ (k38 : Nat), ∃ (c39
  : Bool), RowAt w32 k24 (k25 + n13.toNat * 4) [Value.int IntKind.i64 n34, Value.int IntKind.i64 n35, Value.slice p36 k37 k38, Value.bool c39] ∧ Value.agg
  #[Value.int IntKind.i64 n34, Value.int IntKind.i64 n35, Value.slice p36 k37 k38, Value.bool c39] = Value.agg #[Value.int IntKind.i64 n26, Value.int IntKind.i64
  n27, Value.slice p28 k29 k30, Value.bool c31]) ∧ (∀ (w40 : World) (R41 : List Own), Ctx W w40 (R14 ++ R41) I15 → Calls Tryz.prog F.ledger_Ledger_Last #[Value.pointer
  p4] w40 fun (e42 : Ending) (w43 : World) => ∃ (n44 : Int), e42 = Ending.returned (Value.int IntKind.i64 n44) ∧ ∃ (R45 : List Own), ∃ (Φ46 : PW), Stable
  Φ46 ∧ Ctx W w43 (R45 ++ R41) Φ46 ∧ (∀ (w47 : World) (R48 : List Own), Ctx W w47 (R45 ++ R48) Φ46 → Ctx W w47 (R20 ++ R48) Φ21) ∧ (∀ (w49 : World) (R50
  : List Own), Ctx W w49 (R45 ++ R50) Φ46 → Calls Tryz.prog F.ledger_Ledger_Mark #[Value.pointer p4] w49 fun (e51 : Ending) (w52 : World) => ∃ (n53 : Int),
  e51 = Ending.returned (Value.int IntKind.i64 n53) ∧ ∃ (R54 : List Own), ∃ (Φ55 : PW), Stable Φ55 ∧ Ctx W w52 (R54 ++ R50) Φ55 ∧ (∀ (w56 : World) (R57 :
  List Own), Ctx W w56 (R54 ++ R57) Φ55 → Ctx W w56 (R20 ++ R57) Φ21) ∧ (∀ (w58 : World) (R59 : List Own), Ctx W w58 (R54 ++ R59) Φ55 → Calls Tryz.prog F.ledger_Ledger_Next
  #[Value.pointer p4] w58 fun (e60 : Ending) (w61 : World) => ∃ (n62 : Int), e60 = Ending.returned (Value.int IntKind.i64 n62) ∧ ∃ (R63 : List Own), ∃ (Φ64
  : PW), Stable Φ64 ∧ Ctx W w61 (R63 ++ R59) Φ64 ∧ (∀ (w65 : World) (R66 : List Own), Ctx W w65 (R63 ++ R66) Φ64 → Ctx W w65 (R20 ++ R66) Φ21) ∧ (∀ (w67
  : World) (R68 : List Own), Ctx W w67 (R63 ++ R68) Φ64 → Calls Tryz.prog F.erratalaw41_fitted #[Value.agg #[Value.int IntKind.i64 n26, Value.int IntKind.i64
  n27, Value.slice p28 k29 k30, Value.bool c31], Value.int IntKind.i64 n44, Value.int IntKind.i64 n53, Value.int IntKind.i64 n62] w67 fun (e69 : Ending)
  (w70 : World) => ∃ (n71 : Int), ∃ (n72 : Int), ∃ (p73 : Option Addr), ∃ (k74 : Nat), ∃ (k75 : Nat), ∃ (c76 : Bool), e69 = Ending.returned (Value.agg #[Value.int
  IntKind.i64 n71, Value.int IntKind.i64 n72, Value.slice p73 k74 k75, Value.bool c76]) ∧ ∃ (R77 : List Own), ∃ (Φ78 : PW), Stable Φ78 ∧ Ctx W w70 (R77 ++
  R68) Φ78 ∧ (∀ (w79 : World) (R80 : List Own), Ctx W w79 (R77 ++ R80) Φ78 → Ctx W w79 (R20 ++ R80) Φ21) ∧ (∀ (k81 : Nat), (∀ (w82 : World) (R83 : List Own),
  Ctx W w82 (Own.blk k81 [Value.int IntKind.i64 0, Value.int IntKind.i64 0, Value.slice none 0 0, Value.bool false] 33 :: R77 ++ R83) Φ78 → Ctx W w82 (R20
  ++ R83) Φ21) ∧ ∀ (w84 : World) (R85 : List Own), Ctx W w84 (Own.blk k81 [Value.int IntKind.i64 0, Value.int IntKind.i64 0, Value.slice none 0 0, Value.bool
  false] 33 :: R77 ++ R85) Φ78 → CanWrite w84 k81 0 4 ∧ ∀ (w86 : World), w86 = w84.setCells k81 0 [Value.int IntKind.i64 n71, Value.int IntKind.i64 n72,
  Value.slice p73 k74 k75, Value.bool c76] → ∃ (R87 : List Own), ∃ (Φ88 : PW), Stable Φ88 ∧ Ctx W w86 (R87 ++ R85) Φ88 ∧ ∃ (R89 : List Own), ∃ (Φ90 : PW),
  Stable Φ90 ∧ (∀ (w91 : World) (R92 : List Own), Ctx W w91 (R87 ++ R92) Φ88 → Ctx W w91 (R89 ++ R92) Φ90) ∧ I19 k81 0 R89 Φ90) ∧ True) ∧ (∀ (k93 : Nat),
  (∀ (w94 : World) (R95 : List Own), Ctx W w94 (Own.blk k93 [Value.int IntKind.i64 0, Value.int IntKind.i64 0, Value.slice none 0 0, Value.bool false] 33
  :: R63 ++ R95) Φ64 → Ctx W w94 (R20 ++ R95) Φ21) ∧ (∀ (w96 : World) (R97 : List Own), Ctx W w96 (Own.blk k93 [Value.int IntKind.i64 0, Value.int IntKind.i64
  0, Value.slice none 0 0, Value.bool false] 33 :: R63 ++ R97) Φ64 → Calls Tryz.prog F.erratalaw41_fitted #[Value.agg #[Value.int IntKind.i64 n26, Value.int
  IntKind.i64 n27, Value.slice p28 k29 k30, Value.bool c31], Value.int IntKind.i64 n44, Value.int IntKind.i64 n53, Value.int IntKind.i64 n62] w96 fun (e98
  : Ending) (w99 : World) => ∃ (n100 : Int), ∃ (n101 : Int), ∃ (p102 : Option Addr), ∃ (k103 : Nat), ∃ (k104 : Nat), ∃ (c105 : Bool), e98 = Ending.returned
  (Value.agg #[Value.int IntKind.i64 n100, Value.int IntKind.i64 n101, Value.slice p102 k103 k104, Value.bool c105]) ∧ ∃ (R106 : List Own), ∃ (Φ107 : PW),
  Stable Φ107 ∧ Ctx W w99 (R106 ++ R97) Φ107 ∧ (∀ (w108 : World) (R109 : List Own), Ctx W w108 (R106 ++ R109) Φ107 → Ctx W w108 (R20 ++ R109) Φ21) ∧ ∀ (w110
  : World) (R111 : List Own), Ctx W w110 (R106 ++ R111) Φ107 → CanWrite w110 k93 0 4 ∧ ∀ (w112 : World), w112 = w110.setCells k93 0 [Value.int IntKind.i64
  n100, Value.int IntKind.i64 n101, Value.slice p102 k103 k104, Value.bool c105] → ∃ (R113 : List Own), ∃ (Φ114 : PW), Stable Φ114 ∧ Ctx W w112 (R113 ++
  R111) Φ114 ∧ ∃ (R115 : List Own), ∃ (Φ116 : PW), Stable Φ116 ∧ (∀ (w117 : World) (R118 : List Own), Ctx W w117 (R113 ++ R118) Φ114 → Ctx W w117 (R115 ++
  R118) Φ116) ∧ I19 k93 0 R115 Φ116) ∧ True) ∧ True) ∧ (∀ (k119 : Nat), (∀ (w120 : World) (R121 : List Own), Ctx W w120 (Own.blk k119 [Value.int IntKind.i64
  0, Value.int IntKind.i64 0, Value.slice none 0 0, Value.bool false] 33 :: R54 ++ R121) Φ55 → Ctx W w120 (R20 ++ R121) Φ21) ∧ (∀ (w122 : World) (R123 :
  List Own), Ctx W w122 (Own.blk k119 [Value.int IntKind.i64 0, Value.int IntKind.i64 0, Value.slice none 0 0, Value.bool false] 33 :: R54 ++ R123) Φ55 →
  Calls Tryz.prog F.ledger_Ledger_Next #[Value.pointer p4] w122 fun (e124 : Ending) (w125 : World) => ∃ (n126 : Int), e124 = Ending.returned (Value.int IntKind.i64
  n126) ∧ ∃ (R127 : List Own), ∃ (Φ128 : PW), Stable Φ128 ∧ Ctx W w125 (R127 ++ R123) Φ128 ∧ (∀ (w129 : World) (R130 : List Own), Ctx W w129 (R127 ++ R130)
  Φ128 → Ctx W w129 (R20 ++ R130) Φ21) ∧ (∀ (w131 : World) (R132 : List Own), Ctx W w131 (R127 ++ R132) Φ128 → Calls Tryz.prog F.erratalaw41_fitted #[Value.agg
  #[Value.int IntKind.i64 n26, Value.int IntKind.i64 n27, Value.slice p28 k29 k30, Value.bool c31], Value.int IntKind.i64 n44, Value.int IntKind.i64 n53,
  Value.int IntKind.i64 n126] w131 fun (e133 : Ending) (w134 : World) => ∃ (n135 : Int), ∃ (n136 : Int), ∃ (p137 : Option Addr), ∃ (k138 : Nat), ∃ (k139
  : Nat), ∃ (c140 : Bool), e133 = Ending.returned (Value.agg #[Value.int IntKind.i64 n135, Value.int IntKind.i64 n136, Value.slice p137 k138 k139, Value.bool
  c140]) ∧ ∃ (R141 : List Own), ∃ (Φ142 : PW), Stable Φ142 ∧ Ctx W w134 (R141 ++ R132) Φ142 ∧ (∀ (w143 : World) (R144 : List Own), Ctx W w143 (R141 ++ R144)
  Φ142 → Ctx W w143 (R20 ++ R144) Φ21) ∧ ∀ (w145 : World) (R146 : List Own), Ctx W w145 (R141 ++ R146) Φ142 → CanWrite w145 k119 0 4 ∧ ∀ (w147 : World),
  w147 = w145.setCells k119 0 [Value.int IntKind.i64 n135, Value.int IntKind.i64 n136, Value.slice p137 k138 k139, Value.bool c140] → ∃ (R148 : List Own),
  ∃ (Φ149 : PW), Stable Φ149 ∧ Ctx W w147 (R148 ++ R146) Φ149 ∧ ∃ (R150 : List Own), ∃ (Φ151 : PW), Stable Φ151 ∧ (∀ (w152 : World) (R153 : List Own), Ctx
  W w152 (R148 ++ R153) Φ149 → Ctx W w152 (R150 ++ R153) Φ151) ∧ I19 k119 0 R150 Φ151) ∧ True) ∧ True) ∧ True) ∧ (∀ (k154 : Nat), (∀ (w155 : World) (R156
  : List Own), Ctx W w155 (Own.blk k154 [Value.int IntKind.i64 0, Value.int IntKind.i64 0, Value.slice none 0 0, Value.bool false] 33 :: R45 ++ R156) Φ46
  → Ctx W w155 (R20 ++ R156) Φ21) ∧ (∀ (w157 : World) (R158 : List Own), Ctx W w157 (Own.blk k154 [Value.int IntKind.i64 0, Value.int IntKind.i64 0, Value.slice
  none 0 0, Value.bool false] 33 :: R45 ++ R158) Φ46 → Calls Tryz.prog F.ledger_Ledger_Mark #[Value.pointer p4] w157 fun (e159 : Ending) (w160 : World) =>
  ∃ (n161 : Int), e159 = Ending.returned (Value.int IntKind.i64 n161) ∧ ∃ (R162 : List Own), ∃ (Φ163 : PW), Stable Φ163 ∧ Ctx W w160 (R162 ++ R158) Φ163
  ∧ (∀ (w164 : World) (R165 : List Own), Ctx W w164 (R162 ++ R165) Φ163 → Ctx W w164 (R20 ++ R165) Φ21) ∧ (∀ (w166 : World) (R167 : List Own), Ctx W w166
  (R162 ++ R167) Φ163 → Calls Tryz.prog F.ledger_Ledger_Next #[Value.pointer p4] w166 fun (e168 : Ending) (w169 : World) => ∃ (n170 : Int), e168 = Ending.returned
  (Value.int IntKind.i64 n170) ∧ ∃ (R171 : List Own), ∃ (Φ172 : PW), Stable Φ172 ∧ Ctx W w169 (R171 ++ R167) Φ172 ∧ (∀ (w173 : World) (R174 : List Own),
  Ctx W w173 (R171 ++ R174) Φ172 → Ctx W w173 (R20 ++ R174) Φ21) ∧ (∀ (w175 : World) (R176 : List Own), Ctx W w175 (R171 ++ R176) Φ172 → Calls Tryz.prog
  F.erratalaw41_fitted #[Value.agg #[Value.int IntKind.i64 n26, Value.int IntKind.i64 n27, Value.slice p28 k29 k30, Value.bool c31], Value.int IntKind.i64
  n44, Value.int IntKind.i64 n161, Value.int IntKind.i64 n170] w175 fun (e177 : Ending) (w178 : World) => ∃ (n179 : Int), ∃ (n180 : Int), ∃ (p181 : Option
  Addr), ∃ (k182 : Nat), ∃ (k183 : Nat), ∃ (c184 : Bool), e177 = Ending.returned (Value.agg #[Value.int IntKind.i64 n179, Value.int IntKind.i64 n180, Value.slice
  p181 k182 k183, Value.bool c184]) ∧ ∃ (R185 : List Own), ∃ (Φ186 : PW), Stable Φ186 ∧ Ctx W w178 (R185 ++ R176) Φ186 ∧ (∀ (w187 : World) (R188 : List Own),
  Ctx W w187 (R185 ++ R188) Φ186 → Ctx W w187 (R20 ++ R188) Φ21) ∧ ∀ (w189 : World) (R190 : List Own), Ctx W w189 (R185 ++ R190) Φ186 → CanWrite w189 k154
  0 4 ∧ ∀ (w191 : World), w191 = w189.setCells k154 0 [Value.int IntKind.i64 n179, Value.int IntKind.i64 n180, Value.slice p181 k182 k183, Value.bool c184]
  → ∃ (R192 : List Own), ∃ (Φ193 : PW), Stable Φ193 ∧ Ctx W w191 (R192 ++ R190) Φ193 ∧ ∃ (R194 : List Own), ∃ (Φ195 : PW), Stable Φ195 ∧ (∀ (w196 : World)
  (R197 : List Own), Ctx W w196 (R192 ++ R197) Φ193 → Ctx W w196 (R194 ++ R197) Φ195) ∧ I19 k154 0 R194 Φ195) ∧ True) ∧ True) ∧ True) ∧ True) ∧ (∀ (k198
  : Nat), (∀ (w199 : World) (R200 : List Own), Ctx W w199 (Own.blk k198 [Value.int IntKind.i64 0, Value.int IntKind.i64 0, Value.slice none 0 0, Value.bool
  false] 33 :: R14 ++ R200) I15 → Ctx W w199 (R20 ++ R200) Φ21) ∧ (∀ (w201 : World) (R202 : List Own), Ctx W w201 (Own.blk k198 [Value.int IntKind.i64 0,
  Value.int IntKind.i64 0, Value.slice none 0 0, Value.bool false] 33 :: R14 ++ R202) I15 → Calls Tryz.prog F.ledger_Ledger_Last #[Value.pointer p4] w201
  fun (e203 : Ending) (w204 : World) => ∃ (n205 : Int), e203 = Ending.returned (Value.int IntKind.i64 n205) ∧ ∃ (R206 : List Own), ∃ (Φ207 : PW), Stable
  Φ207 ∧ Ctx W w204 (R206 ++ R202) Φ207 ∧ (∀ (w208 : World) (R209 : List Own), Ctx W w208 (R206 ++ R209) Φ207 → Ctx W w208 (R20 ++ R209) Φ21) ∧ (∀ (w210
  : World) (R211 : List Own), Ctx W w210 (R206 ++ R211) Φ207 → Calls Tryz.prog F.ledger_Ledger_Mark #[Value.pointer p4] w210 fun (e212 : Ending) (w213 :
  World) => ∃ (n214 : Int), e212 = Ending.returned (Value.int IntKind.i64 n214) ∧ ∃ (R215 : List Own), ∃ (Φ216 : PW), Stable Φ216 ∧ Ctx W w213 (R215 ++ R211)
  Φ216 ∧ (∀ (w217 : World) (R218 : List Own), Ctx W w217 (R215 ++ R218) Φ216 → Ctx W w217 (R20 ++ R218) Φ21) ∧ (∀ (w219 : World) (R220 : List Own), Ctx W
  w219 (R215 ++ R220) Φ216 → Calls Tryz.prog F.ledger_Ledger_Next #[Value.pointer p4] w219 fun (e221 : Ending) (w222 : World) => ∃ (n223 : Int), e221 = Ending.returned
  (Value.int IntKind.i64 n223) ∧ ∃ (R224 : List Own), ∃ (Φ225 : PW), Stable Φ225 ∧ Ctx W w222 (R224 ++ R220) Φ225 ∧ (∀ (w226 : World) (R227 : List Own),
  Ctx W w226 (R224 ++ R227) Φ225 → Ctx W w226 (R20 ++ R227) Φ21) ∧ (∀ (w228 : World) (R229 : List Own), Ctx W w228 (R224 ++ R229) Φ225 → Calls Tryz.prog
  F.erratalaw41_fitted #[Value.agg #[Value.int IntKind.i64 n26, Value.int IntKind.i64 n27, Value.slice p28 k29 k30, Value.bool c31], Value.int IntKind.i64
  n205, Value.int IntKind.i64 n214, Value.int IntKind.i64 n223] w228 fun (e230 : Ending) (w231 : World) => ∃ (n232 : Int), ∃ (n233 : Int), ∃ (p234 : Option
  Addr), ∃ (k235 : Nat), ∃ (k236 : Nat), ∃ (c237 : Bool), e230 = Ending.returned (Value.agg #[Value.int IntKind.i64 n232, Value.int IntKind.i64 n233, Value.slice
  p234 k235 k236, Value.bool c237]) ∧ ∃ (R238 : List Own), ∃ (Φ239 : PW), Stable Φ239 ∧ Ctx W w231 (R238 ++ R229) Φ239 ∧ (∀ (w240 : World) (R241 : List Own),
  Ctx W w240 (R238 ++ R241) Φ239 → Ctx W w240 (R20 ++ R241) Φ21) ∧ ∀ (w242 : World) (R243 : List Own), Ctx W w242 (R238 ++ R243) Φ239 → CanWrite w242 k198
  0 4 ∧ ∀ (w244 : World), w244 = w242.setCells k198 0 [Value.int IntKind.i64 n232, Value.int IntKind.i64 n233, Value.slice p234 k235 k236, Value.bool c237]
  → ∃ (R245 : List Own), ∃ (Φ246 : PW), Stable Φ246 ∧ Ctx W w244 (R245 ++ R243) Φ246 ∧ ∃ (R247 : List Own), ∃ (Φ248 : PW), Stable Φ248 ∧ (∀ (w249 : World)
  (R250 : List Own), Ctx W w249 (R245 ++ R250) Φ246 → Ctx W w249 (R247 ++ R250) Φ248) ∧ I19 k198 0 R247 Φ248) ∧ True) ∧ True) ∧ True) ∧ True) ∧ True
end Go.Proofs.YtbkpfhhhbhaecaaGreatDoor
end

/-
  The step 'fitted(l[i], a.Last(), a.Mark(), a.Next())' of the laws of ledgers, walked.
-/
section
set_option linter.unusedVariables false
set_option linter.unusedSimpArgs false
namespace Go.Proofs.YtbkpfhhhbhaecaaGreatDoor
open Go.Vc


section
variable {Φ : PW} {q : LP} {st : LedD} {W w : World} {Q R S G : List Own} {P : Program} {f : FuncId} {args : Array Value}

theorem perm_in {B : Own} : (B :: (Q ++ R) ++ G).Perm (Q ++ (B :: (R ++ G))) := by
  rw [List.cons_append, List.append_assoc]
  exact List.perm_middle.symm
theorem _root_.Go.Vc.GivesQ.toI1 [Stable Φ] {B : Own} {n : Int} {k : IntKind} (h : GivesQ Q Φ P f args (.int k n)) (c : Ctx W w ((B :: (Q ++ R)) ++ G) Φ) {K : Int → List Own → PW → Prop} (hk : K n (B :: (Q ++ R)) Φ) :
    Calls P f args w fun e w' => ∃ n, e = .returned (.int k n) ∧ ∃ R' Φ', Stable Φ' ∧ Ctx W w' (R' ++ G) Φ' ∧ K n R' Φ' :=
  (h.go W w (B :: (R ++ G)) (c.perm perm_in)).mono fun e w' ⟨he, c'⟩ => ⟨n, he, B :: (Q ++ R), Φ, inferInstance, c'.perm perm_in.symm, hk⟩

abbrev fitOf (st : LedD) (x : PushD) : PushD := fitP x (lastP st).no (lastP st).mark ((st.lines.length : Int) + 1)
abbrev zPush : List Value := [.int .i64 0, .int .i64 0, .slice none 0 0, .bool false]

set_option maxHeartbeats 4000000 in
theorem fit_tree [Stable Φ] {l : List PushD} {i : Nat} (hlt : i < l.length) {lP : Option Addr} {g o : Nat} {cs : List (List Value)} (hp : lP = some ⟨g, o, none⟩) (hPin : ∀ M w, Φ M w → Pin g o cs l M w) {r : Option Addr} {rc : Nat} (he : cs.getD i [] = l[i].cells r rc)
    (h1 : l[i].l.length ≤ rc) (h2 : rc ≤ maxLen) (hl : l[i].l.length ≤ 100000) (hq : LedQ q st) (hs : LedS st) (hm : -1 ≤ (lastP st).mark ∧ (lastP st).mark ≤ 1099511627776) {K : Nat → Nat → List Own → PW → Prop}
    (hK : ∀ kb p' c', (fitOf st l[i]).l.length ≤ c' → c' ≤ maxLen → There p' (fitOf st l[i]).l.length → Stable (fun M w => Φ M w ∧ Sl M w p' (fitOf st l[i]).l) → K kb 0 (LedO q st ++ (.blk kb ((fitOf st l[i]).cells p' c') 33 :: R)) (fun M w => Φ M w ∧ Sl M w p' (fitOf st l[i]).l)) :
    FitTree lP l.length (i : Int) (some ⟨q.lb, 0, none⟩) W (LedO q st ++ R) Φ K := by
  have hsl := hs.lines
  have hh : Has Φ (fun M w => Sl M w r l[i].l) := ⟨fun M w h => pinp_sl (hPin M w h) hlt he⟩
  have fin1 : ∀ {kb : Nat} {p' : Option Addr} {c' : Nat}, (fitOf st l[i]).l.length ≤ c' → c' ≤ maxLen → There p' (fitOf st l[i]).l.length → Stable (fun M w => Φ M w ∧ Sl M w p' (fitOf st l[i]).l) → ∀ {w : World} {G : List Own}, Ctx W w ((.blk kb zPush 33 :: (LedO q st ++ R)) ++ G) (fun M w => Φ M w ∧ Sl M w p' (fitOf st l[i]).l) →
      CanWrite w kb 0 4 ∧ ∀ w2, w2 = w.setCells kb 0 ((fitOf st l[i]).cells p' c') → ∃ R1 Φ1, Stable Φ1 ∧ Ctx W w2 (R1 ++ G) Φ1 ∧ ∃ R2 Φ2, Stable Φ2 ∧ (∀ w F, Ctx W w (R1 ++ F) Φ1 → Ctx W w (R2 ++ F) Φ2) ∧ K kb 0 R2 Φ2 := fun {kb p' c'} k1 k2 k3 k4 {w G} cx =>
    ⟨cx.can 0 rfl (by show 0 + 4 ≤ 4; decide), fun w2 e => ⟨.blk kb ((fitOf st l[i]).cells p' c') 33 :: (LedO q st ++ R), _, k4, cx.puts 0 e rfl, LedO q st ++ (.blk kb ((fitOf st l[i]).cells p' c') 33 :: R), _, k4, fun w F c => Ctx.outl (Q := LedO q st) (R := .blk kb ((fitOf st l[i]).cells p' c') 33 :: R) (G := F) (Ctx.perm c perm_in), hK kb p' c' k1 k2 k3 k4⟩⟩
  have fitA : ∀ {R0 G : List Own} {w : World} {K : Int → Int → Option Addr → Nat → Nat → Bool → List Own → PW → Prop}, Ctx W w (R0 ++ G) Φ → (∀ p' c', (fitOf st l[i]).l.length ≤ c' → c' ≤ maxLen → There p' (fitOf st l[i]).l.length → Stable (fun M w => Φ M w ∧ Sl M w p' (fitOf st l[i]).l) → K (fitOf st l[i]).batch (fitOf st l[i]).mark p' (fitOf st l[i]).l.length c' (fitOf st l[i]).fit R0 (fun M w => Φ M w ∧ Sl M w p' (fitOf st l[i]).l)) →
      Calls Tryz.prog F.erratalaw41_fitted #[l[i].v r rc, .int .i64 (lastP st).no, .int .i64 (lastP st).mark, .int .i64 ((st.lines.length : Int) + 1)] w fun e w' => ∃ a b p' k c' f, e = .returned (.agg #[.int .i64 a, .int .i64 b, .slice p' k c', .bool f]) ∧ ∃ R' Φ', Stable Φ' ∧ Ctx W w' (R' ++ G) Φ' ∧ K a b p' k c' f R' Φ' := fun {R0 G w K} cx h =>
    fitted_to (x := l[i]) (R := R0) h1 h2 hl hm (by omega) cx h
  unfold FitTree
  refine ⟨LedO q st ++ R, Φ, inferInstance, fun w G c => c, by omega, ptrK_intro g o hp ⟨l[i].batch, l[i].mark, r, l[i].l.length, rc, l[i].fit, fun w G cx => ⟨_, _, _, _, _, _, by rw [Int.toNat_natCast]; exact pinp_rowAt (hPin _ _ cx.phi) hlt he, rfl⟩, ?_⟩⟩
  refine ⟨fun w G cx => (Last_q hq hs).toI cx ⟨fun w G c => c, ⟨fun w G cx => (Mark_q hq hs).toI cx ⟨fun w G c => c, ⟨fun w G cx => (Next_q hs).toI cx ⟨fun w G c => c, ?A, ?B⟩, ?C⟩⟩, ?D⟩⟩, ?E⟩
  case A => exact fun w G cx => fitA cx fun p' c' k1 k2 k3 k4 => ⟨fun w G c => c.fst, fun kb => ⟨fun w G c => Ctx.drop1 c.fst, fun w G cx => fin1 k1 k2 k3 k4 cx⟩, trivial⟩
  case B => exact ⟨fun kb => ⟨fun w G c => Ctx.drop1 c, fun w G cx => fitA cx fun p' c' k1 k2 k3 k4 => ⟨fun w G c => Ctx.drop1 c.fst, fun w G cx => fin1 k1 k2 k3 k4 cx⟩, trivial⟩, trivial⟩
  case C => exact ⟨fun kb => ⟨fun w G c => Ctx.drop1 c, fun w G cx => (Next_q hs).toI1 cx ⟨fun w G c => Ctx.drop1 c, fun w G cx => fitA cx fun p' c' k1 k2 k3 k4 => ⟨fun w G c => Ctx.drop1 c.fst, fun w G cx => fin1 k1 k2 k3 k4 cx⟩, trivial⟩, trivial⟩, trivial⟩
  case D => exact ⟨fun kb => ⟨fun w G c => Ctx.drop1 c, fun w G cx => (Mark_q hq hs).toI1 cx ⟨fun w G c => Ctx.drop1 c, fun w G cx => (Next_q hs).toI1 cx ⟨fun w G c => Ctx.drop1 c, fun w G cx => fitA cx fun p' c' k1 k2 k3 k4 => ⟨fun w G c => Ctx.drop1 c.fst, fun w G cx => fin1 k1 k2 k3 k4 cx⟩, trivial⟩, trivial⟩, trivial⟩, trivial⟩
  case E => exact ⟨fun kb => ⟨fun w G c => Ctx.drop1 c, fun w G cx => (Last_q hq hs).toI1 cx ⟨fun w G c => Ctx.drop1 c, fun w G cx => (Mark_q hq hs).toI1 cx ⟨fun w G c => Ctx.drop1 c, fun w G cx => (Next_q hs).toI1 cx ⟨fun w G c => Ctx.drop1 c, fun w G cx => fitA cx fun p' c' k1 k2 k3 k4 => ⟨fun w G c => Ctx.drop1 c.fst, fun w G cx => fin1 k1 k2 k3 k4 cx⟩, trivial⟩, trivial⟩, trivial⟩, trivial⟩, trivial⟩
end
end Go.Proofs.YtbkpfhhhbhaecaaGreatDoor
end

/-
  The law LedgerSums, in plain Lean.
-/
section
set_option linter.unusedVariables false
set_option linter.unusedSimpArgs false
namespace Go.Proofs.YtbkpfhhhbhaecaaGreatDoor
open Go.Vc


/-- what holds of a ledger at any time -/
structure Inv (st : LedD) : Prop where
  cnt : CntOk st
  bats : BatsOk st
  time : ∀ x ∈ st.lines, x.time ≤ (lastP st).mark
  mark : -1 ≤ (lastP st).mark ∧ (lastP st).mark ≤ 1099511627776
  fit : RowsFit st.lines

theorem last_app (st : LedD) (no mark : Int) (L : List LineD) : lastP (appP st no mark L) = ⟨no, mark, (st.lines ++ L).length⟩ := by
  unfold lastP appP
  rw [List.getLast?_append]; rfl
theorem Inv.start : Inv ⟨[], []⟩ where
  cnt := s_cnt0
  bats := ⟨fun i h => by simp at h, by simp⟩
  time := by simp
  mark := by decide
  fit := fun x hx => by simp at hx
theorem Inv.app {st : LedD} {no mark : Int} {L : List LineD} (h : Inv st) (hs : LedS st) (ac : AccB st no mark L) (hf : RowsFit L) (h1 : I64 no) : Inv (appP st no mark L) where
  cnt := ac.cnt hf h.cnt
  bats := app_bats hs h.bats h1 (by have := h.mark; have := ac.gmark; have := ac.most; unfold I64; omega)
  time := fun x hx => by
    rw [last_app]
    show x.time ≤ mark
    rcases List.mem_append.1 hx with hx | hx
    · have := h.time x hx; have := ac.gmark; omega
    · obtain ⟨_, g⟩ := ac.mem hx
      exact g.t1
  mark := by
    rw [last_app]
    show -1 ≤ mark ∧ mark ≤ _
    have := h.mark; have := ac.gmark; have := ac.most; omega
  fit := fun x hx => by
    rcases List.mem_append.1 hx with hx | hx
    · exact h.fit x hx
    · exact hf x hx

theorem few_out {l : List PushD} {n : Int} (h : fewL l n = true) : (l.length : Int) ≤ n ∧ ∀ x ∈ l, x.l.length ≤ 12 ∧ (∀ y ∈ x.l, y.row.length ≤ 13 ∧ ∀ v ∈ y.row, v.text.size ≤ 300) := by
  unfold fewL at h
  rw [Bool.and_eq_true] at h
  refine ⟨of_decide_eq_true h.2, fun x hx => ?_⟩
  have h1 := List.all_eq_true.1 h.1 x hx
  unfold shortL at h1
  rw [Bool.and_eq_true] at h1
  have h2 := of_decide_eq_true h1.2
  refine ⟨by omega, fun y hy => ?_⟩
  obtain ⟨g1, g2⟩ := short_out (List.all_eq_true.1 h1.1 y hy)
  exact ⟨by omega, g1⟩
end Go.Proofs.YtbkpfhhhbhaecaaGreatDoor
end

/-
  The law LedgerSums, walked.
-/
section
set_option linter.unusedVariables false
set_option linter.unusedSimpArgs false
namespace Go.Proofs.YtbkpfhhhbhaecaaGreatDoor
open Go.Vc


section
variable {Φ : PW} {q : LP} {st : LedD} {W w : World} {R S G : List Own} {p : Option Addr} {cap : Nat}

/-- what lies beside the ledger is let go -/
theorem drop_mid [Stable Φ] {B : Own} (c : Ctx W w ((LedO q st ++ (B :: R)) ++ G) Φ) : Ctx W w ((LedO q st ++ R) ++ G) Φ :=
  c.sub (List.Sublist.append (List.Sublist.append (List.Sublist.refl _) (List.sublist_cons_self B R)) (List.Sublist.refl G))

end
end Go.Proofs.YtbkpfhhhbhaecaaGreatDoor
end

/-
  Line, Batch, History and made, walked; lines that are the same.
-/
section
set_option linter.unusedVariables false
set_option linter.unusedSimpArgs false
namespace Go.Proofs.YtbkpfhhhbhaecaaGreatDoor
open Go.Vc


/-! ### plain -/
def sameL (x y : LineD) : Bool := decide (x.no = y.no) && decide (x.batch = y.batch) && decide (x.time = y.time) && decide (x.n = y.n) && decide (x.cause = y.cause) && decide (x.why = y.why) && decide (cmpR x.row y.row = 0)
theorem sameL_refl (x : LineD) : sameL x x = true := by unfold sameL; simp [cmpR_cmp.refl]
def sameLs (a b : List LineD) : Bool := decide (a.length = b.length) && (a.zip b).all fun x => sameL x.1 x.2
theorem sameLs_refl (a : List LineD) : sameLs a a = true := by
  unfold sameLs
  rw [decide_eq_true rfl, Bool.true_and]
  refine List.all_eq_true.2 fun x hx => ?_
  have : x.1 = x.2 := by
    obtain ⟨i, hi, rfl⟩ := List.getElem_of_mem hx
    rw [List.getElem_zip]
  rw [this]; exact sameL_refl _
def isAt (t : Int) (r : List ValD) (x : LineD) : Bool := decide (x.time = t) && decide (x.row = r)
def histP (l : List LineD) (t : Int) (r : List ValD) : List LineD := l.filter (isAt t r)

section
variable {Φ : PW} {q : LP} {st : LedD} {W w : World} {R S G : List Own} {p r : Option Addr} {cap cap2 : Nat}

theorem Same03r_in [Stable Φ] {a b : List ValD} [hA : Has Φ (fun M w => Sl M w p a)] [hB : Has Φ (fun M w => Sl M w r b)] (hlen : a.length ≤ 1000000) : GivesIn Φ Tryz.prog F.errataref03_Same #[.slice p a.length cap, .slice r b.length cap2] (.bool (decide (cmpR a b = 0))) :=
  gives_in (Berrataref03_Same_run p a.length cap r b.length cap2) fun W R => fun w G cx => (rCompareRows_in p r cap cap2 a b hA.go hB.go (by omega)).toI cx fun w G cx => ⟨rfl, cx.left⟩
theorem SameLine_in [Stable Φ] (x y : LineD) [hA : Has Φ (fun M w => Sl M w p x.row)] [hB : Has Φ (fun M w => Sl M w r y.row)] (hlen : x.row.length ≤ 1000000) : GivesIn Φ Tryz.prog F.errataref41_SameLine #[x.v p cap, y.v r cap2] (.bool (sameL x y)) := by
  refine gives_in (Berrataref41_SameLine_run x.no x.batch x.time p x.row.length cap x.n x.cause x.why y.no y.batch y.time r y.row.length cap2 y.n y.cause y.why) fun W R => fun _ _ => ?_
  unfold sameL
  refine Br.intro (fun h => ?_) (fun h => fun w G cx => ⟨by rw [h]; rfl, cx.left⟩)
  rw [h]
  refine Br.intro (fun h => ?_) (fun h => fun w G cx => ⟨by rw [h]; rfl, cx.left⟩)
  rw [h]
  refine Br.intro (fun h => ?_) (fun h => fun w G cx => ⟨by rw [h]; rfl, cx.left⟩)
  rw [h]
  refine Br.intro (fun h => ?_) (fun h => fun w G cx => ⟨by rw [h]; rfl, cx.left⟩)
  rw [h]
  refine Br.intro (fun h => ?_) (fun h => fun w G cx => ⟨by rw [h]; rfl, cx.left⟩)
  rw [h]
  refine Br.intro (fun h => ?_) (fun h => fun w G cx => ⟨by rw [h]; rfl, cx.left⟩)
  rw [h]
  exact fun w G cx => (Same03r_in (a := x.row) (b := y.row) hlen).toB cx fun w G cx => ⟨rfl, cx.left⟩

/-- lines that are handed back, with their cells -/
theorem _root_.Go.Vc.GivesQSl.src [Stable Φ] {Q : List Own} {f : FuncId} {args : Array Value} {l : List LineD} (h : GivesQSl Q Φ Tryz.prog f args l) (c : Ctx W w ((Q ++ R) ++ G) Φ) {K : Option Addr → Nat → Nat → List Own → PW → Prop}
    (hk : ∀ p cap cs, l.length ≤ cap → cap ≤ maxLen → There p l.length → Rows7 cs l → Stable (fun M w => Φ M w ∧ SrcF p l cs M w) → K p l.length cap (Q ++ R) (fun M w => Φ M w ∧ SrcF p l cs M w)) :
    Calls Tryz.prog f args w fun e w' => ∃ p n c, e = .returned (.slice p n c) ∧ ∃ R' Φ', Stable Φ' ∧ Ctx W w' (R' ++ G) Φ' ∧ K p n c R' Φ' :=
  (h.go W w (R ++ G) c.inl).mono fun e w' ⟨p, cap, he, h1, h2, c'⟩ => by
    obtain ⟨cs, c2⟩ := srcOf c' c'.phi.2
    have hst : Stable (fun M w => Φ M w ∧ SrcF p l cs M w) := instStableAnd Φ (fun M w => SrcF p l cs M w)
    exact ⟨p, _, cap, he, Q ++ R, _, hst, c2.outl.weak fun M w h => ⟨h.1.1, h.2⟩, hk p cap cs h1 h2 c'.phi.2.there (rows7 c2.phi.2.2) hst⟩

/-- append one line -/
theorem pushL {PS : PW} [Stable PS] {op : Option Addr} {oc : Nat} {ds : List Value} {o : List LineD} {x : LineD} {a : Option Addr} {ac kb : Nat} (hx : ∀ M w, PS M w → Gv.rep M w (x.cells a ac) x) (ho : o.length < 10000000)
    (cx : Ctx W w (.blk kb (x.cells a ac) 51 :: .buf op o.length oc ds 51 7 :: R ++ G) (fun M w => PS M w ∧ Elems M w ds o)) :
    ∃ p c w', Sem.run Tryz.prog (builtin Builtin.append #[31, 31] 31 #[false, false] #[.slice op o.length oc, .slice (some ⟨kb, 0, none⟩) 1 1]) w = .ok (.value (.slice p (o ++ [x]).length c)) w' ∧ Ctx W w' (.buf p (o ++ [x]).length c (ds ++ x.cells a ac) 51 7 :: R ++ G) (fun M w => PS M w ∧ Elems M w (ds ++ x.cells a ac) (o ++ [x])) := by
  obtain ⟨p', cap', w', hrun, _, cx'⟩ := Ctx.app1 (P := Tryz.prog) (ts := 31) (ty := 31) (kb := #[false, false]) (size := 7) (bytes := 72) cx (by kernel_rfl) (by omega) rfl rfl (by omega) (by omega)
  have e : o.length + 1 = (o ++ [x]).length := by simp
  rw [e] at hrun cx'
  exact ⟨p', cap', w', hrun, cx'.weak fun M w h => ⟨h.1, h.2.snoc (hx M w h.1)⟩⟩

end
end Go.Proofs.YtbkpfhhhbhaecaaGreatDoor
end

/-
  What holds of a ledger's lines and batches; made, walked.
-/
section
set_option linter.unusedVariables false
set_option linter.unusedSimpArgs false
namespace Go.Proofs.YtbkpfhhhbhaecaaGreatDoor
open Go.Vc


/-! ### plain -/
structure Inv2 (st : LedD) : Prop where
  num : ∀ i (h : i < st.lines.length), st.lines[i].no = i + 1
  asc : st.bats.Pairwise fun a b => a.no < b.no
  full : begP st.bats st.bats.length = st.lines.length
  seg : ∀ i (h : i < st.lines.length), ∃ j, ∃ hj : j < st.bats.length, begP st.bats j ≤ i ∧ i < st.bats[j].stop ∧ st.bats[j].no = st.lines[i].batch
  cause : ∀ x ∈ st.lines, x.cause = 0 ∨ x.cause = 1 ∨ x.cause = 2

theorem last_max {l : List BatD} (h : l.Pairwise fun a b => a.no < b.no) (d : BatD) : ∀ b ∈ l, b.no ≤ (l.getLast?.getD d).no := fun b hb => by
  have hl : 0 < l.length := List.length_pos_of_mem hb
  rw [List.getLast?_eq_getElem?, List.getElem?_eq_getElem (by omega)]
  show b.no ≤ l[l.length - 1].no
  obtain ⟨i, hi, rfl⟩ := List.getElem_of_mem hb
  rcases Nat.lt_or_ge i (l.length - 1) with h1 | h1
  · have := List.pairwise_iff_getElem.1 h i (l.length - 1) hi (by omega) h1
    omega
  · have : i = l.length - 1 := by omega
    subst this
    exact Int.le_refl _
theorem begP_app {l : List BatD} {x : BatD} {i : Nat} (h : i ≤ l.length) : begP (l ++ [x]) i = begP l i := by
  unfold begP
  by_cases h0 : i = 0
  · rw [if_pos h0, if_pos h0]
  · rw [if_neg h0, if_neg h0, List.getElem?_append_left (by omega)]

theorem Inv2.start : Inv2 ⟨[], []⟩ where
  num := fun i h => by simp at h
  asc := List.Pairwise.nil
  full := rfl
  seg := fun i h => by simp at h
  cause := fun x hx => by simp at hx
theorem Inv2.app {st : LedD} {no mark : Int} {L : List LineD} (h : Inv2 st) (ac : AccB st no mark L) : Inv2 (appP st no mark L) where
  num := fun i hi => by
    have hi' : i < (st.lines ++ L).length := hi
    show (st.lines ++ L)[i].no = i + 1
    rw [List.length_append] at hi'
    by_cases hlt : i < st.lines.length
    · rw [List.getElem_append_left hlt]; exact h.num i hlt
    · rw [List.getElem_append_right (by omega)]
      have := (ac.at (i - st.lines.length) (by omega)).gno
      rw [this]; omega
  asc := by
    show (st.bats ++ [_]).Pairwise _
    refine List.pairwise_append.2 ⟨h.asc, List.pairwise_singleton _ _, fun a ha b hb => ?_⟩
    rw [List.mem_singleton.1 hb]
    have h1 := last_max h.asc ⟨0, -1, 0⟩ a ha
    have h2 := ac.gno
    unfold lastP at h2
    show a.no < no
    omega
  full := by
    show begP (st.bats ++ [(⟨no, mark, (st.lines ++ L).length⟩ : BatD)]) (st.bats ++ [_]).length = (st.lines ++ L).length
    have e : (st.bats ++ [(⟨no, mark, (st.lines ++ L).length⟩ : BatD)]).length = st.bats.length + 1 := by simp
    rw [e, begP_succ (by rw [e]; omega), List.getElem_append_right (Nat.le_refl _)]
    simp
  seg := fun i hi => by
    have hi' : i < (st.lines ++ L).length := hi
    show ∃ j, ∃ hj : j < (st.bats ++ [(⟨no, mark, (st.lines ++ L).length⟩ : BatD)]).length, begP (st.bats ++ [(⟨no, mark, (st.lines ++ L).length⟩ : BatD)]) j ≤ i ∧ i < (st.bats ++ [(⟨no, mark, (st.lines ++ L).length⟩ : BatD)])[j].stop ∧ (st.bats ++ [(⟨no, mark, (st.lines ++ L).length⟩ : BatD)])[j].no = (st.lines ++ L)[i].batch
    by_cases hlt : i < st.lines.length
    · obtain ⟨j, hj, g1, g2, g3⟩ := h.seg i hlt
      refine ⟨j, by rw [List.length_append]; omega, ?_, ?_, ?_⟩
      · rw [begP_app (by omega)]; exact g1
      · rw [List.getElem_append_left hj]; exact g2
      · rw [List.getElem_append_left hj, List.getElem_append_left hlt]; exact g3
    · rw [List.length_append] at hi'
      refine ⟨st.bats.length, by rw [List.length_append]; simp, ?_, ?_, ?_⟩
      · rw [begP_app (Nat.le_refl _), h.full]; omega
      · rw [List.getElem_append_right (Nat.le_refl _)]
        simp only [Nat.sub_self, List.getElem_cons_zero]
        rw [List.length_append]; omega
      · rw [List.getElem_append_right (Nat.le_refl _), List.getElem_append_right (by omega)]
        simp only [Nat.sub_self, List.getElem_cons_zero]
        exact (ac.at (i - st.lines.length) (by omega)).batch.symm
  cause := fun x hx => by
    rcases List.mem_append.1 hx with hx | hx
    · exact h.cause x hx
    · obtain ⟨_, g⟩ := ac.mem hx
      exact caused_cause g.caused

/-- a ledger after i pushes -/
structure LedI (i : Nat) (st : LedD) : Prop where
  s : LedS st
  v : Inv st
  w : Inv2 st
  n1 : st.lines.length ≤ 12 * i
  n2 : st.bats.length ≤ i
def okPush (x : PushD) : Prop := x.l.length ≤ 12 ∧ ∀ y ∈ x.l, y.row.length ≤ 13 ∧ ∀ v ∈ y.row, v.text.size ≤ 300
def stepP (st : LedD) (x : PushD) : LedD := if checkP st (fitOf st x).batch (fitOf st x).mark (fitOf st x).l = 0 then appP st (fitOf st x).batch (fitOf st x).mark (fitOf st x).l else st
def madeP (l : List PushD) : LedD := l.foldl stepP ⟨[], []⟩
theorem madeP_step {l : List PushD} {i : Nat} (h : i < l.length) : madeP (l.take (i + 1)) = stepP (madeP (l.take i)) l[i] := by
  unfold madeP
  rw [List.take_succ_eq_append_getElem h, List.foldl_append]; rfl

theorem LedI.start : LedI 0 ⟨[], []⟩ := ⟨new_s, Inv.start, Inv2.start, by simp, by simp⟩
theorem LedI.more {i : Nat} {st : LedD} (h : LedI i st) : LedI (i + 1) st := ⟨h.s, h.v, h.w, by have := h.n1; omega, by have := h.n2; omega⟩
theorem fit_ok {st : LedD} {x : PushD} (h : okPush x) : okPush (fitOf st x) := by
  refine ⟨by have := fitP_len x (lastP st).no (lastP st).mark ((st.lines.length : Int) + 1); have := h.1; show (fitP _ _ _ _).l.length ≤ 12; omega, fun y hy => ?_⟩
  obtain ⟨z, hz, e⟩ := fitP_row _ _ _ _ y hy
  rw [e]; exact h.2 z hz
theorem fit_i64 {st : LedD} {x : PushD} (h : I64 x.batch) : I64 (fitOf st x).batch := by
  unfold fitOf fitP
  split
  · exact w64_in _
  · exact h
theorem LedI.app {i : Nat} {st : LedD} (h : LedI i st) (hi : i ≤ 1000) {X : PushD} (hx : okPush X) (h64 : I64 X.batch) (hz : checkP st X.batch X.mark X.l = 0) (hf : RowsFit X.l) : LedI (i + 1) (appP st X.batch X.mark X.l) := by
  have ac := check_ok hz
  have h1 := h.n1
  have h2 := h.n2
  have h3 := hx.1
  refine ⟨app_s h.s (fun y hy => (hx.2 y hy).1) (fun y hy => (hx.2 y hy).2) (by rw [List.length_append]; omega) (by omega), h.v.app h.s ac hf h64, h.w.app ac, ?_, ?_⟩
  · show (st.lines ++ X.l).length ≤ _
    rw [List.length_append]; omega
  · show (st.bats ++ [_]).length ≤ _
    rw [List.length_append]; exact Nat.add_le_add_right h2 1

section
variable {Φ : PW} {q : LP} {st : LedD} {W w : World} {R S G : List Own} {p r : Option Addr} {cap cap2 : Nat}

/-- a push is fitted and appended: the ledger of the next step -/
theorem push_next [Stable Φ] [hT : Has Φ TabI] {i : Nat} (hq : LedQ q st) (hi : LedI i st) (hi2 : i ≤ 1000) {x : PushD} (hx : okPush x) (h64 : I64 x.batch) {px : Option Addr} {cx0 : Nat} [hL : Has Φ (fun M w => Sl M w px (fitOf st x).l)] [hF : Has Φ (LF q st)]
    (c : Ctx W w ((LedO q st ++ R) ++ G) Φ) {K : Int → List Own → PW → Prop}
    (h : ∀ n q', q'.lb = q.lb → LedQ q' (stepP st x) → LedI (i + 1) (stepP st x) → Stable (fun M w => Φ M w ∧ LF q' (stepP st x) M w) → K n (LedO q' (stepP st x) ++ R) (fun M w => Φ M w ∧ LF q' (stepP st x) M w)) :
    Calls Tryz.prog F.ledger_Ledger_Append #[led q, .int .i64 (fitOf st x).batch, .int .i64 (fitOf st x).mark, .slice px (fitOf st x).l.length cx0] w fun e w' => ∃ n, e = .returned (.int .i64 n) ∧ ∃ R' Φ', Stable Φ' ∧ Ctx W w' (R' ++ G) Φ' ∧ K n R' Φ' := by
  have hX := fit_ok (st := st) hx
  have h641 := fit_i64 (st := st) h64
  unfold stepP at h
  refine (Append_to (L := (fitOf st x).l) (no := (fitOf st x).batch) (mark := (fitOf st x).mark) hq hi.s hi.v.cnt (by have := hX.1; omega) (fun y hy => by have := (hX.2 y hy).1; omega) c (K := fun n R' Φ' => ∃ Φ2, Stable Φ2 ∧ (∀ M w, Φ' M w → Φ2 M w) ∧ K n R' Φ2) (fun hz => ?_) fun q' hz hf hlb hq' st3 => ?_).mono fun e w' ⟨n, he, R', Φ', hst, cx, Φ2, hst2, hw, hK⟩ => ⟨n, he, R', Φ2, hst2, cx.weak hw, hK⟩
  · have h := h (checkP st (fitOf st x).batch (fitOf st x).mark (fitOf st x).l) q rfl
    rw [if_neg hz] at h
    exact ⟨_, instStableAnd Φ (fun M w => LF q st M w), fun M w hh => ⟨hh, hF.go M w hh⟩, h hq hi.more (instStableAnd Φ (fun M w => LF q st M w))⟩
  · have h := h 0 q' hlb
    rw [if_pos hz] at h
    exact ⟨_, st3, fun M w hh => hh, h hq' (hi.app hi2 hX h641 hz hf) st3⟩

set_option maxHeartbeats 4000000 in
theorem made_to [Stable Φ] [hT : Has Φ TabI] {l : List PushD} {g o : Nat} {cs : List (List Value)} (hp : 0 < l.length → p = some ⟨g, o, none⟩) (hP : ∀ M w, Φ M w → Pin g o cs l M w) (hlen : l.length ≤ 1000) (hok : ∀ x ∈ l, okPush x) (c : Ctx W w (R ++ G) Φ) {K : Option Addr → List Own → PW → Prop}
    (hk : ∀ q, LedQ q (madeP l) → LedI l.length (madeP l) → Stable (fun M w => Φ M w ∧ LF q (madeP l) M w) → K (some ⟨q.lb, 0, none⟩) (LedO q (madeP l) ++ R) (fun M w => Φ M w ∧ LF q (madeP l) M w)) :
    Calls Tryz.prog F.erratalaw41_made #[.slice p l.length cap] w fun e w' => ∃ p, e = .returned (.pointer p) ∧ ∃ R' Φ', Stable Φ' ∧ Ctx W w' (R' ++ G) Φ' ∧ K p R' Φ' := by
  have hpc : ∀ j (hj : j < l.length), ∃ p c, cs.getD j [] = l[j].cells p c ∧ l[j].l.length ≤ c ∧ c ≤ maxLen ∧ I64 l[j].batch ∧ I64 l[j].mark := fun j hj => pin_push (hP _ _ c.phi) hj
  refine (Berratalaw41_made_run p l.length cap (R := R ++ G) (J := fun v w' => ∃ p, v = .pointer p ∧ ∃ R' Φ', Stable Φ' ∧ Ctx W w' (R' ++ G) Φ' ∧ K p R' Φ') c ?_).mono fun e w' ⟨v, he, p, hv, rest⟩ => ⟨p, by rw [he, hv], rest⟩
  clear c
  refine fun w G2 cx => New_to cx fun q0 hq0 st0 => ?_
  clear cx
  obtain ⟨lb, hlb⟩ : ∃ lb, q0.lb = lb := ⟨_, rfl⟩
  refine exI_mk (fun iI R' Φ' k => ∃ (i : Nat) (q : LP), iI = i ∧ i ≤ l.length ∧ q.lb = lb ∧ LedQ q (madeP (l.take i)) ∧ LedI i (madeP (l.take i)) ∧ R' = LedO q (madeP (l.take i)) ++ (R ++ G) ∧ Φ' = (fun M w => Φ M w ∧ LF q (madeP (l.take i)) M w) ∧ k = l.length - i) ⟨⟨_, _, _, st0, fun w G cx => cx, 0, q0, rfl, Nat.zero_le _, hlb, hq0, LedI.start, rfl, rfl, rfl⟩, ?_⟩
  clear st0 hq0
  rw [hlb]
  rintro iI R1 Φ1 k _ ⟨i, q, rfl, hi, hlb2, hq, hv, rfl, rfl, rfl⟩
  refine fun w G2 cx => ?_
  clear cx
  refine Br.intro (fun hlt0 => ?_) (fun hge => fun w G2 cx => ?_)
  · have hlt : i < l.length := by
      rw [Bool.and_eq_true] at hlt0
      have := of_decide_eq_true hlt0.1; omega
    clear hlt0
    obtain ⟨r, rc, he, k1, k2, k3, k4⟩ := hpc i hlt
    have hx := hok l[i] (List.getElem_mem _)
    have hstp := madeP_step hlt
    obtain ⟨st, hste⟩ : ∃ st, madeP (l.take i) = st := ⟨_, rfl⟩
    rw [hste] at hq hv hstp ⊢
    have hst : Stable (fun M w => Φ M w ∧ LF q st M w) := instStableAnd Φ (fun M w => LF q st M w)
    subst hlb2
    have tree : FitTree p l.length (i : Int) (some ⟨q.lb, 0, none⟩) W (LedO q st ++ (R ++ G)) (fun M w => Φ M w ∧ LF q st M w) (fun kx z R' Φ' => ∃ p' c', z = 0 ∧ R' = LedO q st ++ (.blk kx ((fitOf st l[i]).cells p' c') 33 :: (R ++ G)) ∧ Φ' = (fun M w => (Φ M w ∧ LF q st M w) ∧ Sl M w p' (fitOf st l[i]).l)) :=
      fit_tree hlt (hp (by omega)) (fun M w h => hP M w h.1) he k1 k2 (by have := hx.1; omega) hq hv.s hv.v.mark fun kb p' c' m1 m2 m3 m4 => ⟨p', c', rfl, rfl, rfl⟩
    refine exI_mk (fun kx z R' Φ' => ∃ p' c', z = 0 ∧ R' = LedO q st ++ (.blk kx ((fitOf st l[i]).cells p' c') 33 :: (R ++ G)) ∧ Φ' = (fun M w => (Φ M w ∧ LF q st M w) ∧ Sl M w p' (fitOf st l[i]).l)) ⟨tree, ?_⟩
    clear tree
    rintro kx z R2 Φ2 st2 ⟨p2, c2, rfl, rfl, rfl⟩
    have cb : ∀ {Ψ : PW} {w : World} {G3 : List Own} {j : Nat} {v : Value}, ((fitOf st l[i]).cells p2 c2)[j]? = some v → Ctx W w ((LedO q st ++ (.blk kx ((fitOf st l[i]).cells p2 c2) 33 :: (R ++ G))) ++ G3) Ψ → w.cell? ⟨kx, 0 + j, none⟩ = some v := fun hv cx => by
      rw [Nat.zero_add]; exact cx.get 4 rfl hv
    refine fun w G cx => ⟨_, cb (j := 0) rfl cx, fun w G cx => ⟨_, cb (j := 1) rfl cx, fun w G cx => ⟨_, _, _, cb (j := 2) rfl cx, fun w G cx => ?_⟩⟩⟩
    refine push_next (x := l[i]) (i := i) hq hv (by omega) hx k3 cx fun n q' hlb3 hq' hv' st3 => ?_
    clear cx
    rw [← hstp] at hq' hv' st3 ⊢
    exact ⟨by unfold I64; omega, LedO q' (madeP (l.take (i + 1))) ++ (R ++ _), _, l.length - (i + 1), @instStableAnd Φ (fun M w => LF q' (madeP (l.take (i + 1))) M w) _ (instStableElems q'.cs (madeP (l.take (i + 1))).lines), fun w G cx => drop_mid cx.has, ⟨i + 1, q', by omega, hlt, hlb3, hq', hv', rfl, rfl, rfl⟩, by omega⟩
  · have hge : i = l.length := by
      rw [Bool.and_eq_false_iff] at hge
      rcases hge with h | h
      · have := of_decide_eq_false h; omega
      · cases h
    subst hge
    rw [List.take_length] at cx hq hv
    subst hlb2
    exact ⟨_, rfl, LedO q (madeP l) ++ R, _, instStableAnd Φ (fun M w => LF q (madeP l) M w), (cx.left).re (by simp), hk q hq hv (instStableAnd Φ (fun M w => LF q (madeP l) M w))⟩
end
end Go.Proofs.YtbkpfhhhbhaecaaGreatDoor
end

/-
  The reading of ledgers, in plain Lean.
-/
section
set_option linter.unusedVariables false
set_option linter.unusedSimpArgs false
namespace Go.Proofs.YtbkpfhhhbhaecaaGreatDoor
open Go.Vc


/-! ### a line -/
def rdL (st : RdS) (nx no : Int) (r : List ValD) : LineD × RdS :=
  (⟨nx, no, (rdInt st).1, r, (rdInt (stepT (rdInt st).2).2).1, (rdInt (rdInt (stepT (rdInt st).2).2).2).1, (rdInt (rdInt (rdInt (stepT (rdInt st).2).2).2).2).1⟩, (rdInt (rdInt (rdInt (stepT (rdInt st).2).2).2).2).2)
def lineR (nx no : Int) (st : RdS) : Option (LineD × RdS) := (readRowP (stepT (rdInt st).2).1.data.toList).map (rdL st nx no)
theorem lineR_none {nx no : Int} {st : RdS} (h : readRowP (stepT (rdInt st).2).1.data.toList = none) : lineR nx no st = none := by unfold lineR; rw [h]; rfl
theorem lineR_some {nx no : Int} {st : RdS} {r : List ValD} (h : readRowP (stepT (rdInt st).2).1.data.toList = some r) : lineR nx no st = some (rdL st nx no r) := by unfold lineR; rw [h]; rfl
theorem lineR_inv {nx no : Int} {st st' : RdS} {x : LineD} (h : lineR nx no st = some (x, st')) : ∃ r, readRowP (stepT (rdInt st).2).1.data.toList = some r ∧ rdL st nx no r = (x, st') := by
  unfold lineR at h
  exact Option.map_eq_some_iff.1 h
attribute [irreducible] lineR
theorem lineB_list (x : LineD) (t : List UInt8) : (lineB x).data.toList ++ t = (intB x.time).data.toList ++ ((textB (rowB x.row)).data.toList ++ ((intB x.n).data.toList ++ ((intB x.cause).data.toList ++ ((intB x.why).data.toList ++ t)))) := by
  unfold lineB
  simp [ByteArray.data_append]
theorem line_fit {x : LineD} (h : LineW x) : (∀ v ∈ x.row, FitV v) ∧ x.row.length ≤ 9223372036854775807 ∧ (rowB x.row).size ≤ 9223372036854775807 := by
  have h1 := rowB_small h.row h.val
  have h2 := h.row
  exact ⟨fun v hv => ⟨(h.val v hv).1, by have := (h.val v hv).2; omega⟩, by omega, by omega⟩
theorem line_read {x : LineD} {t : List UInt8} (h : LineW x) : lineR x.no x.batch ((lineB x).data.toList ++ t, false) = some (x, (t, false)) := by
  obtain ⟨h3, h4, h5⟩ := line_fit h
  have e0 := lineB_list x t
  have e1 : rdInt ((lineB x).data.toList ++ t, false) = (x.time, ((textB (rowB x.row)).data.toList ++ ((intB x.n).data.toList ++ ((intB x.cause).data.toList ++ ((intB x.why).data.toList ++ t))), false)) := by
    rw [e0, int_read h.inn.time]
  have e2 := text_read (r := (intB x.n).data.toList ++ ((intB x.cause).data.toList ++ ((intB x.why).data.toList ++ t))) h5
  have e3 : readRowP (stepT (rdInt ((lineB x).data.toList ++ t, false)).2).1.data.toList = some x.row := by
    rw [e1]
    show readRowP (stepT ((textB (rowB x.row)).data.toList ++ _, false)).1.data.toList = some x.row
    rw [e2]
    exact row_read h3 h4
  rw [lineR_some e3]
  unfold rdL
  rw [e1]
  simp only
  rw [e2]
  simp only
  rw [int_read h.inn.n]
  simp only
  rw [int_read h.inn.cause]
  simp only
  rw [int_read h.inn.why]
theorem lineB_ne {x : LineD} (h : I64 x.time) (t : List UInt8) : (lineB x).data.toList ++ t ≠ [] := fun e => by
  have h1 := intB_size h
  have h2 := congrArg List.length e
  rw [lineB_list, List.length_append, list_size] at h2
  simp only [List.length_nil] at h2
  omega

/-! ### lines -/
def linesR (nx no : Int) : Nat → RdS → List LineD → Option (List LineD × RdS)
  | 0, st, acc => some (acc, st)
  | k + 1, st, acc => if st.1 = [] then some (acc, st) else (lineR (nx + acc.length) no st).bind fun y => linesR nx no k y.2 (acc ++ [y.1])
theorem linesR_z (nx no : Int) (st : RdS) (acc : List LineD) : linesR nx no 0 st acc = some (acc, st) := rfl
theorem linesR_e {nx no : Int} {k : Nat} {st : RdS} {acc : List LineD} (h : st.1 = []) : linesR nx no k st acc = some (acc, st) := by
  cases k with
  | zero => rfl
  | succ k => unfold linesR; rw [if_pos h]
theorem linesR_n {nx no : Int} {k : Nat} {st : RdS} {acc : List LineD} (h0 : st.1 ≠ []) (h : lineR (nx + acc.length) no st = none) : linesR nx no (k + 1) st acc = none := by
  unfold linesR
  rw [if_neg h0, h]; rfl
theorem linesR_s {nx no : Int} {k : Nat} {st st' : RdS} {acc : List LineD} {x : LineD} (h0 : st.1 ≠ []) (h : lineR (nx + acc.length) no st = some (x, st')) : linesR nx no (k + 1) st acc = linesR nx no k st' (acc ++ [x]) := by
  rw [linesR.eq_2, if_neg h0, h]; rfl
theorem lines_read {nx no : Int} : ∀ (c acc : List LineD) (t : List UInt8), (∀ x ∈ c, LineW x) → (∀ i (h : i < c.length), c[i].no = nx + acc.length + i ∧ c[i].batch = no) → linesR nx no c.length (linesL c ++ t, false) acc = some (acc ++ c, (t, false))
  | [], acc, t, _, _ => by rw [List.append_nil]; rfl
  | x :: c, acc, t, h, hn => by
    obtain ⟨h1, h2⟩ := hn 0 (by simp)
    have h1 : x.no = nx + acc.length := by simpa using h1
    have h2 : x.batch = no := by simpa using h2
    have e : linesL (x :: c) ++ t = (lineB x).data.toList ++ (linesL c ++ t) := by simp [linesL]
    have hr := line_read (x := x) (t := linesL c ++ t) (h x (by simp))
    rw [h1, h2] at hr
    rw [e, List.length_cons, linesR_s (lineB_ne (h x (by simp)).inn.time _) hr, lines_read c (acc ++ [x]) t (fun y hy => h y (by simp [hy])) fun i hi => ?_, List.append_assoc]
    · rfl
    · obtain ⟨g1, g2⟩ := hn (i + 1) (by simp; omega)
      rw [List.getElem_cons_succ] at g1 g2
      rw [List.length_append, List.length_singleton]
      exact ⟨by omega, g2⟩

/-! ### batches -/
def batR (led : LedD) (st : RdS) : Option (LedD × RdS) :=
  (linesR (led.lines.length + 1) (rdInt st).1 (rdNat (rdInt (rdInt st).2).2).1.toNat (rdNat (rdInt (rdInt st).2).2).2 []).bind fun y =>
    if checkP led (rdInt st).1 (rdInt (rdInt st).2).1 y.1 = 0 then some (appP led (rdInt st).1 (rdInt (rdInt st).2).1 y.1, y.2) else none
def batsR : Nat → RdS → LedD → Option (LedD × RdS)
  | 0, st, led => some (led, st)
  | n + 1, st, led => if st.1 = [] then some (led, st) else (batR led st).bind fun y => batsR n y.2 y.1
theorem batsR_z (st : RdS) (led : LedD) : batsR 0 st led = some (led, st) := rfl
theorem batsR_e {n : Nat} {st : RdS} {led : LedD} (h : st.1 = []) : batsR n st led = some (led, st) := by
  cases n with
  | zero => rfl
  | succ n => unfold batsR; rw [if_pos h]
theorem batsR_n {n : Nat} {st : RdS} {led : LedD} (h0 : st.1 ≠ []) (h : batR led st = none) : batsR (n + 1) st led = none := by
  rw [batsR.eq_2, if_neg h0, h]; rfl
theorem batsR_s {n : Nat} {st st' : RdS} {led led' : LedD} (h0 : st.1 ≠ []) (h : batR led st = some (led', st')) : batsR (n + 1) st led = batsR n st' led' := by
  rw [batsR.eq_2, if_neg h0, h]; rfl
def readLed (l : List UInt8) : Option LedD := (batsR (rdNat (l, false)).1.toNat (rdNat (l, false)).2 ⟨[], []⟩).bind fun y => if rdDone y.2 = true ∧ ledL y.1 = l then some y.1 else none
theorem readLed_is {l : List UInt8} {st : LedD} (h : readLed l = some st) : ledL st = l := by
  unfold readLed at h
  obtain ⟨y, h1, h2⟩ := Option.bind_eq_some_iff.1 h
  split at h2
  · rename_i hc
    cases h2
    exact hc.2
  · cases h2

theorem batR_list {no mark : Int} {L : List LineD} {t : List UInt8} {led : LedD} (h1 : I64 no) (h2 : I64 mark) (h3 : (L.length : Int) ≤ 9223372036854775807) (hw : ∀ x ∈ L, LineW x) (hz : checkP led no mark L = 0) :
    batR led ((intB no).data.toList ++ ((intB mark).data.toList ++ ((natB (L.length : Int)).data.toList ++ (linesL L ++ t))), false) = some (appP led no mark L, (t, false)) := by
  have ac := check_ok hz
  unfold batR
  rw [int_read h1]
  simp only
  rw [int_read h2]
  simp only
  rw [nat_read h3]
  simp only [Int.toNat_natCast]
  rw [lines_read L [] t hw fun i hi => ⟨by have := (ac.at i hi).gno; simp only [List.length_nil]; omega, (ac.at i hi).batch⟩, List.nil_append]
  show (if checkP led no mark L = 0 then some (appP led no mark L, (t, false)) else none) = _
  rw [if_pos hz]

/-- a ledger made of batches that it accepted -/
inductive Made : LedD → Prop
  | none : Made ⟨[], []⟩
  | app {st : LedD} {no mark : Int} {L : List LineD} : Made st → checkP st no mark L = 0 → Made (appP st no mark L)
theorem Made.inv {st : LedD} (h : Made st) : Inv2 st ∧ ∀ b ∈ st.bats, b.stop ≤ st.lines.length := by
  induction h with
  | none => exact ⟨Inv2.start, fun b hb => by simp at hb⟩
  | @app st no mark L h hz ih =>
    refine ⟨ih.1.app (check_ok hz), fun b hb => ?_⟩
    show b.stop ≤ (st.lines ++ L).length
    rcases List.mem_append.1 hb with hb | hb
    · have := ih.2 b hb
      rw [List.length_append]; omega
    · rw [List.mem_singleton.1 hb]
      exact Nat.le_refl _
theorem made_all : ∀ (l : List PushD) (st : LedD), Made st → Made (l.foldl stepP st)
  | [], st, h => h
  | x :: l, st, h => made_all l (stepP st x) (by
    unfold stepP
    split
    · rename_i hz
      exact .app h hz
    · exact h)
theorem made_made (l : List PushD) : Made (madeP l) := made_all l _ .none

theorem begP_le {st : LedD} (h : Made st) {i : Nat} (hi : i ≤ st.bats.length) : begP st.bats i ≤ st.lines.length := by
  unfold begP
  split
  · exact Nat.zero_le _
  · rw [List.getElem?_eq_getElem (by omega)]
    exact h.inv.2 _ (List.getElem_mem _)
theorem segL_app {st : LedD} (h : Made st) {no mark : Int} {L : List LineD} {i : Nat} (hi : i < st.bats.length) : segL (appP st no mark L) i = segL st i := by
  have e : (appP st no mark L).bats = st.bats ++ [⟨no, mark, (st.lines ++ L).length⟩] := rfl
  have e2 : (appP st no mark L).lines = st.lines ++ L := rfl
  have h1 := begP_le h (Nat.le_of_lt hi)
  have h2 := h.inv.2 _ (List.getElem_mem hi)
  unfold segL
  rw [e, e2, List.getElem?_append_left hi, List.getElem?_eq_getElem hi, begP_app (Nat.le_of_lt hi)]
  simp only
  rw [List.drop_append_of_le_length h1, List.take_append_of_le_length (by rw [List.length_drop]; omega)]
theorem segsL_app {st : LedD} (h : Made st) {no mark : Int} {L : List LineD} : ∀ {i : Nat}, i ≤ st.bats.length → segsL (appP st no mark L) i = segsL st i
  | 0, _ => rfl
  | i + 1, hi => by rw [segsL_step, segsL_step, segsL_app h (by omega), segL_app h (by omega)]
theorem segL_last {st : LedD} (h : Made st) {no mark : Int} {L : List LineD} : segL (appP st no mark L) st.bats.length = (intB no).data.toList ++ ((intB mark).data.toList ++ ((natB (L.length : Int)).data.toList ++ linesL L)) := by
  have e : (appP st no mark L).bats = st.bats ++ [⟨no, mark, (st.lines ++ L).length⟩] := rfl
  have e2 : (appP st no mark L).lines = st.lines ++ L := rfl
  have hf := h.inv.1.full
  unfold segL
  rw [e, e2, List.getElem?_append_right (Nat.le_refl _), Nat.sub_self, begP_app (Nat.le_refl _), hf]
  simp only [List.getElem?_cons_zero]
  have hl : (st.lines ++ L).length - st.lines.length = L.length := by rw [List.length_append]; omega
  rw [List.drop_left, hl, List.take_length]
  unfold batB
  simp only [hl]
  simp [ByteArray.data_append]
theorem made_read {st : LedD} (h : Made st) : (∀ x ∈ st.lines, LineW x) → (∀ b ∈ st.bats, I64 b.no ∧ I64 b.mark) → st.lines.length ≤ 1000000 → ∀ (m : Nat) (t : List UInt8), batsR (st.bats.length + m) (segsL st st.bats.length ++ t, false) ⟨[], []⟩ = batsR m (t, false) st := by
  induction h with
  | none =>
    intro _ _ _ m t
    show batsR (0 + m) ([] ++ t, false) _ = _
    rw [Nat.zero_add, List.nil_append]
  | @app st no mark L h hz ih =>
    intro hw hb hl m t
    have e : (appP st no mark L).bats.length = st.bats.length + 1 := by
      show (st.bats ++ [_]).length = _
      simp
    have e2 : (appP st no mark L).lines = st.lines ++ L := rfl
    rw [e2] at hw hl
    rw [List.length_append] at hl
    have hbn := hb ⟨no, mark, (st.lines ++ L).length⟩ (List.mem_append.2 (.inr (by simp)))
    have hr := batR_list (led := st) (no := no) (mark := mark) (L := L) (t := t) hbn.1 hbn.2 (by omega) (fun x hx => hw x (by simp [hx])) hz
    have hne : (segL (appP st no mark L) st.bats.length ++ t, false).1 ≠ [] := fun e => by
      have h1 : 2 ≤ (intB no).size ∧ (intB no).size ≤ 21 := intB_size hbn.1
      have h2 := congrArg List.length e
      rw [segL_last h] at h2
      rw [List.length_append, List.length_append, list_size] at h2
      simp only [List.length_nil] at h2
      omega
    have hr2 : batR st (segL (appP st no mark L) st.bats.length ++ t, false) = some (appP st no mark L, (t, false)) := by
      rw [segL_last h]
      simp only [List.append_assoc]
      exact hr
    rw [e, segsL_step, segsL_app h (Nat.le_refl _), List.append_assoc, show st.bats.length + 1 + m = st.bats.length + (m + 1) by omega,
      ih (fun x hx => hw x (by simp [hx])) (fun b hb2 => hb b (List.mem_append.2 (.inl hb2))) (by omega), batsR_s hne hr2]
theorem readLed_bytes {st : LedD} (h : Made st) (hw : ∀ x ∈ st.lines, LineW x) (hb : ∀ b ∈ st.bats, I64 b.no ∧ I64 b.mark) (hl : st.lines.length ≤ 1000000) (hl2 : st.bats.length ≤ 1000000) : readLed (ledL st) = some st := by
  have h1 := made_read h hw hb hl 0 []
  rw [Nat.add_zero, List.append_nil] at h1
  unfold readLed
  have h2 : rdNat (ledL st, false) = ((st.bats.length : Int), (segsL st st.bats.length, false)) := by
    unfold ledL
    rw [nat_read (by omega)]
  rw [h2]
  simp only [Int.toNat_natCast]
  rw [h1]
  show (if rdDone ([], false) = true ∧ ledL st = ledL st then some st else none) = some st
  rw [if_pos ⟨rfl, rfl⟩]

/-! ### lengths -/
theorem rdInt_eats (st : RdS) : (rdInt st).2 = ([], true) ∧ (rdInt st).1 = 0 ∨ (rdInt st).2.1.length + 2 ≤ st.1.length := by
  unfold rdInt stepN
  split
  · rename_i n r h
    obtain ⟨⟨h1, _⟩, h2⟩ := (numP_iff (.inr (.inl rfl))).1 h
    have := itoa_len h1
    right
    rw [h2, List.length_append, List.length_cons]
    simp only; omega
  · exact .inl ⟨rfl, rfl⟩
theorem stepT_eats (st : RdS) : (stepT st).1.data.toList = [] ∨ (stepT st).2.1.length + 3 + (stepT st).1.size ≤ st.1.length := by
  unfold stepT
  simp only
  split
  · exact .inl rfl
  · rename_i h
    by_cases hc : (stepC 44 ((stepN 58 0 st).2.1.drop (stepN 58 0 st).1.toNat, (stepN 58 0 st).2.2)).2 = true
    · left
      rw [if_pos hc]
    · right
      simp only
      rw [if_neg hc, bs_size, List.length_take]
      unfold stepN at hc ⊢
      split at hc
      · rename_i n r hn
        obtain ⟨⟨h1, _⟩, h2⟩ := (numP_iff (.inl rfl)).1 hn
        have := itoa_len h1
        simp only at hc ⊢
        unfold stepC at hc ⊢
        simp only at hc ⊢
        split at hc
        · exact absurd rfl hc
        · rename_i x r2 hx
          have hlen := congrArg List.length hx
          rw [List.length_drop, List.length_cons] at hlen
          split at hc
          · rename_i hxe
            rw [if_pos hxe, h2, List.length_append, List.length_cons]
            simp only; omega
          · exact absurd rfl hc
      · exfalso
        apply hc
        rfl
theorem readRow_pos {l : List UInt8} {r : List ValD} (h : readRowP l = some r) : 2 ≤ l.length := by
  unfold readRowP at h
  rcases Nat.lt_or_ge l.length 2 with h1 | h1
  · exfalso
    have e : rdNat (l, false) = (0, ([], true)) := by
      refine stepN_none ?_
      rcases hn : numP 59 0 l with _ | ⟨n, r2⟩
      · rfl
      · obtain ⟨⟨g1, _⟩, g2⟩ := (numP_iff (.inr (.inl rfl))).1 hn
        have := itoa_len g1
        rw [g2, List.length_append, List.length_cons] at h1
        omega
    rw [e] at h
    cases h
  · exact h1
theorem line_eats {nx no : Int} {st st' : RdS} {x : LineD} (h : lineR nx no st = some (x, st')) : st'.1.length + 7 ≤ st.1.length ∧ x.row.length ≤ st.1.length ∧ (∀ v ∈ x.row, v.text.size ≤ st.1.length) ∧ I64 x.time ∧ I64 x.n ∧ I64 x.cause ∧ I64 x.why ∧ x.no = nx ∧ x.batch = no := by
  obtain ⟨r, hr, he⟩ := lineR_inv h
  obtain ⟨f1, f2⟩ := readRow_fit hr
  have hp := readRow_pos hr
  unfold rdL at he
  injection he with e1 e2
  subst e1 e2
  rcases stepT_eats (rdInt st).2 with e | e
  · rw [e] at hp
    simp at hp
  · rw [list_size] at hp f1 f2
    rcases rdInt_eats st with ⟨e2, _⟩ | e2
    · rw [e2, List.length_nil] at e
      omega
    · have a : (rdInt (stepT (rdInt st).2).2).2.1.length ≤ (stepT (rdInt st).2).2.1.length := stepN_len 59 (-9223372036854775808) _
      have b : (rdInt (rdInt (stepT (rdInt st).2).2).2).2.1.length ≤ (rdInt (stepT (rdInt st).2).2).2.1.length := stepN_len 59 (-9223372036854775808) _
      have c : (rdInt (rdInt (rdInt (stepT (rdInt st).2).2).2).2).2.1.length ≤ (rdInt (rdInt (stepT (rdInt st).2).2).2).2.1.length := stepN_len 59 (-9223372036854775808) _
      refine ⟨by omega, ?_, fun v hv => ?_, rdInt_i64 _, rdInt_i64 _, rdInt_i64 _, rdInt_i64 _, rfl, rfl⟩
      · show r.length ≤ _
        omega
      · have := f2 v hv
        omega
end Go.Proofs.YtbkpfhhhbhaecaaGreatDoor
end

/-
  ledger.Read, walked.
-/
section
set_option linter.unusedVariables false
set_option linter.unusedSimpArgs false
namespace Go.Proofs.YtbkpfhhhbhaecaaGreatDoor
open Go.Vc


/-- what holds of a ledger while it is read out of n bytes -/
structure RInv (n : Nat) (led : LedD) (st : RdS) : Prop where
  s : LedS led
  v : Inv led
  m : Made led
  lines : led.lines.length * 7 + st.1.length ≤ n
  bats : led.bats.length * 2 + st.1.length ≤ n
  no : 0 ≤ (lastP led).no
theorem RInv.start {n : Nat} {st : RdS} (h : st.1.length ≤ n) : RInv n ⟨[], []⟩ st := ⟨new_s, Inv.start, .none, by simpa using h, by simpa using h, by decide⟩
theorem RInv.app {n : Nat} {led : LedD} {st st2 : RdS} {mark : Int} {L : List LineD} (h : RInv n led st) (hn : n ≤ 1000000) (hz : checkP led (rdInt st).1 mark L = 0) (hf : RowsFit L) (h2 : L.length * 7 + st2.1.length ≤ (rdInt st).2.1.length) : RInv n (appP led (rdInt st).1 mark L) st2 := by
  have ac := check_ok hz
  have h0 := h.no
  have hno := ac.gno
  have h5 := h.lines
  have h6 := h.bats
  rcases rdInt_eats st with ⟨_, e⟩ | e
  · rw [e] at hno
    omega
  · refine ⟨app_s h.s (fun x hx => by have := right_len (ac.right x hx); omega) (fun x hx v hv => by have := right_text2 (ac.right x hx) v hv; omega) (by rw [List.length_append]; omega) (by omega), h.v.app h.s ac hf (rdInt_i64 st), .app h.m hz, ?_, ?_, ?_⟩
    · show (led.lines ++ L).length * 7 + _ ≤ n
      rw [List.length_append]; omega
    · show (led.bats ++ [_]).length * 2 + _ ≤ n
      rw [List.length_append, List.length_singleton]; omega
    · rw [last_app]
      show 0 ≤ (rdInt st).1
      omega

section
variable {Φ : PW} {W w : World} {R S G : List Own}

theorem perm3 [Stable Φ] {A B : List Own} (c : Ctx W w ((A ++ (B ++ R)) ++ G) Φ) : Ctx W w ((B ++ (A ++ R)) ++ G) Φ := c.perm (List.Perm.append_right G (by
  rw [← List.append_assoc, ← List.append_assoc]
  exact List.Perm.append_right R List.perm_append_comm))

set_option maxHeartbeats 8000000 in
theorem LRead_use [Stable Φ] (hΦ : ∀ M w, Φ M w → NumI M w) (l : List UInt8) (hl : l.length ≤ 1000000) (c : Ctx W w S Φ) {K : Ending → World → Prop}
    (h0 : readLed l = none → ∀ w', Ctx W w' S Φ → K (.returned (.tuple #[.pointer none, .bool false])) w')
    (h1 : ∀ q st w', readLed l = some st → LedQ q st → LedS st → Inv st → Ctx W w' (LedO q st ++ S) (fun M w => Φ M w ∧ LF q st M w) → K (.returned (.tuple #[led q, .bool true])) w') :
    Calls Tryz.prog F.ledger_Read #[.string (bs l)] w K := by
  refine (Bledger_Read_run (bs l) (J := fun u w' => K (.returned u) w') (R := S) c ?_).mono fun e w' ⟨v, he, hj⟩ => by rw [he]; exact hj
  clear c
  refine fun w G cx => Open_use l cx fun b w cx => ⟨_, rfl, rd b (l, false) :: S, Φ, inferInstance, cx, ?_⟩
  clear cx
  refine fun w G cx => New_to cx fun q0 hq0 st0 => ?_
  clear cx
  obtain ⟨lb, hlb⟩ : ∃ lb, q0.lb = lb := ⟨_, rfl⟩
  have hT0 : ∀ {Ψ : PW}, ∀ M w, (Φ M w ∧ Ψ M w) → NumI M w := fun M w h => hΦ M w h.1
  refine fun w G cx => RNum_to (st := (l, false)) (b := b) (S := LedO q0 ⟨[], []⟩ ++ S) hT0 (by simp only; omega) (perm3 (A := LedO q0 ⟨[], []⟩) (B := [rd b (l, false)]) (R := S) cx) ?_
  clear cx
  have hlen : (rdNat (l, false)).2.1.length ≤ l.length := stepN_len 59 0 (l, false)
  have hnn : 0 ≤ (rdNat (l, false)).1 ∧ (rdNat (l, false)).1 ≤ 9223372036854775807 := stepN_nonneg (e := 59) (.inr (.inl rfl)) (l, false)
  have hall : readLed l = (batsR (rdNat (l, false)).1.toNat (rdNat (l, false)).2 ⟨[], []⟩).bind fun y => if rdDone y.2 = true ∧ ledL y.1 = l then some y.1 else none := rfl
  obtain ⟨⟨n0, st0'⟩, hst⟩ : ∃ x, rdNat (l, false) = x := ⟨_, rfl⟩
  rw [hst] at hlen hnn hall ⊢
  simp only at hlen hnn hall ⊢
  obtain ⟨INV, hI⟩ : ∃ I : Int → List Own → PW → Nat → Prop, ∀ m R' Φ' k, I m R' Φ' k ↔ ∃ (st : RdS) (ld : LedD) (q : LP), q.lb = lb ∧ LedQ q ld ∧ RInv l.length ld st ∧ R' = rd b st :: (LedO q ld ++ S) ∧ Φ' = (fun M w => Φ M w ∧ LF q ld M w) ∧ k = m.toNat ∧ 0 ≤ m ∧ m ≤ 9223372036854775807 ∧ batsR n0.toNat st0' ⟨[], []⟩ = batsR m.toNat st ld := ⟨_, fun _ _ _ _ => Iff.rfl⟩
  refine exI_mk INV ⟨⟨_, _, _, st0, fun w G cx => cx, (hI _ _ _ _).2 ⟨st0', ⟨[], []⟩, q0, hlb, hq0, RInv.start hlen, rfl, rfl, rfl, hnn.1, hnn.2, rfl⟩⟩, ?_⟩
  clear st0 hq0
  rw [hlb]
  intro m R1 Φ1 k _ hinv
  obtain ⟨st, ld, q, hlb2, hq, hv, rfl, rfl, rfl, hm0, hm1, hbr⟩ := (hI _ _ _ _).1 hinv
  clear hinv
  have hst1 : Stable (fun M w => Φ M w ∧ LF q ld M w) := instStableAnd Φ (fun M w => LF q ld M w)
  have hT1 : ∀ M w, (Φ M w ∧ LF q ld M w) → NumI M w := fun M w h => hΦ M w h.1
  subst hlb2
  have hsl := hv.lines
  have hs := hv.s
  have hln := hs.lines
  -- the end
  have fin : ∀ {st : RdS} {ld : LedD} {q : LP}, LedQ q ld → LedS ld → Inv ld → Stable (fun M w => Φ M w ∧ LF q ld M w) → batsR n0.toNat st0' ⟨[], []⟩ = some (ld, st) → ∀ {w : World} {G1 : List Own}, Ctx W w (rd b st :: (LedO q ld ++ S) ++ G1) (fun M w => Φ M w ∧ LF q ld M w) →
      Calls Tryz.prog F.wire_Reader_Done #[.pointer (some ⟨b, 0, none⟩)] w fun e w' => ∃ c : Bool, e = .returned (.bool c) ∧ ∃ (R' : List Own) (Φ' : PW), Stable Φ' ∧ Ctx W w' (R' ++ G1) Φ' ∧
        Br (!c) (∀ (w : World) (F1 : List Own), Ctx W w (R' ++ F1) Φ' → K (.returned (.tuple #[.pointer none, .bool false])) w) (∀ (w : World) (F1 : List Own), Ctx W w (R' ++ F1) Φ' → Calls Tryz.prog F.ledger_Ledger_Bytes #[led q] w fun e w' => ∃ s : ByteArray, e = .returned (.string s) ∧ ∃ (R2 : List Own) (Φ2 : PW), Stable Φ2 ∧ Ctx W w' (R2 ++ F1) Φ2 ∧
          Br (decide (s ≠ bs l)) (∀ (w : World) (F1 : List Own), Ctx W w (R2 ++ F1) Φ2 → K (.returned (.tuple #[.pointer none, .bool false])) w) (∀ (w : World) (F1 : List Own), Ctx W w (R2 ++ F1) Φ2 → K (.returned (.tuple #[led q, .bool true])) w)) := by
    intro st ld q hq hs hv hst1 hbr w G1 cx
    have hT1 : Has (fun M w => Φ M w ∧ LF q ld M w) TabI := ⟨fun M w h => (hΦ M w h.1).1⟩
    rw [hbr] at hall
    have hall : readLed l = if rdDone st = true ∧ ledL ld = l then some ld else none := hall
    refine Done_to (S := LedO q ld ++ S) cx ?_
    clear cx
    refine Br.intro (fun h => fun w G2 cx => h0 ?_ w ?_) (fun h => ?_)
    · rw [hall, if_neg (fun e => by rw [e.1] at h; cases h)]
    · exact ((Ctx.drop1 cx.left).weak fun M w h => h.1).right
    · refine fun w G2 cx => (Bytes_q hq hs hv.bats).toS (R := rd b st :: S) (perm3 (A := [rd b st]) (B := LedO q ld) (R := S) cx) ?_
      clear cx
      have h : rdDone st = true := by simpa using h
      refine Br.intro (fun hb => fun w G2 cx => h0 ?_ w ?_) (fun hb => fun w G2 cx => h1 q ld w ?_ hq hs hv ?_)
      · rw [hall, if_neg (fun e => of_decide_eq_true hb (bs_inj.2 e.2))]
      · have cx2 : Ctx W w ((LedO q ld ++ [rd b st]) ++ S) (fun M w => Φ M w ∧ LF q ld M w) := cx.left.re (by simp)
        exact cx2.right.weak fun M w h => h.1
      · rw [hall, if_pos ⟨h, bs_inj.1 (Decidable.not_not.1 (of_decide_eq_false hb))⟩]
      · have cx3 : Ctx W w ((LedO q ld ++ (rd b st :: S)) ++ []) (fun M w => Φ M w ∧ LF q ld M w) := cx.left.re (by simp)
        exact (drop_mid cx3).re (by simp)
  refine Br.intro (fun hpos => ?_) (fun hz => ?_)
  · have hpos := of_decide_eq_true hpos
    refine fun w G cx => Left_to (S := LedO q ld ++ S) cx ?_
    clear cx
    refine Br.intro (fun hlt => ?_) (fun hz => ?_)
    · have hlt := of_decide_eq_true hlt
      have hne : st.1 ≠ [] := fun e => by rw [e] at hlt; simp at hlt
      have hmm : m.toNat = (m - 1).toNat + 1 := by omega
      rw [hmm] at hbr
      have f1 : (rdInt st).2.1.length ≤ st.1.length := stepN_len 59 (-9223372036854775808) st
      have f2 : (rdInt (rdInt st).2).2.1.length ≤ (rdInt st).2.1.length := stepN_len 59 (-9223372036854775808) _
      have f3 : (rdNat (rdInt (rdInt st).2).2).2.1.length ≤ (rdInt (rdInt st).2).2.1.length := stepN_len 59 0 _
      have hkn : 0 ≤ (rdNat (rdInt (rdInt st).2).2).1 ∧ (rdNat (rdInt (rdInt st).2).2).1 ≤ 9223372036854775807 := stepN_nonneg (e := 59) (.inr (.inl rfl)) _
      have hbR : batR ld st = (linesR (ld.lines.length + 1) (rdInt st).1 (rdNat (rdInt (rdInt st).2).2).1.toNat (rdNat (rdInt (rdInt st).2).2).2 []).bind fun y => if checkP ld (rdInt st).1 (rdInt (rdInt st).2).1 y.1 = 0 then some (appP ld (rdInt st).1 (rdInt (rdInt st).2).1 y.1, y.2) else none := rfl
      have hi64a := rdInt_i64 st
      refine fun w G cx => RInt_to (S := LedO q ld ++ S) hT1 (by omega) cx ?_
      clear cx
      refine fun w G cx => RInt_to (S := LedO q ld ++ S) hT1 (by omega) cx ?_
      clear cx
      refine fun w G cx => RNum_to (S := LedO q ld ++ S) hT1 (by omega) cx ?_
      clear cx
      have happ : ∀ {mk : Int} {L : List LineD} {st2 : RdS}, mk = (rdInt (rdInt st).2).1 → checkP ld (rdInt st).1 mk L = 0 → RowsFit L → L.length * 7 + st2.1.length ≤ (rdInt st).2.1.length → RInv l.length (appP ld (rdInt st).1 mk L) st2 := fun _ hz hf h2 => hv.app hl hz hf h2
      obtain ⟨mk, hmk⟩ : ∃ mk, (rdInt (rdInt st).2).1 = mk := ⟨_, rfl⟩
      obtain ⟨no, hno⟩ : ∃ no, (rdInt st).1 = no := ⟨_, rfl⟩
      obtain ⟨⟨k0, st3⟩, hst3⟩ : ∃ x, rdNat (rdInt (rdInt st).2).2 = x := ⟨_, rfl⟩
      rw [hmk, hno, hst3] at hbR
      rw [hno] at happ hi64a
      rw [hmk, hno, hst3]
      rw [hst3] at hkn f3
      simp only at hbR hkn f3 ⊢
      have happ := @happ mk
      -- the lines are there
      have app : ∀ {sl : RdS} {acc : List LineD} {p : Option Addr} {c : Nat} {ds : List Value}, linesR (ld.lines.length + 1) no k0.toNat st3 [] = some (acc, sl) → acc.length * 7 + sl.1.length ≤ st3.1.length → (∀ x ∈ acc, x.row.length ≤ 1000000) → ∀ {w : World} {G1 : List Own}, Ctx W w (.buf p acc.length c ds 51 7 :: rd b sl :: (LedO q ld ++ S) ++ G1) (fun M w => (Φ M w ∧ LF q ld M w) ∧ Elems M w ds acc) →
          Calls Tryz.prog F.ledger_Ledger_Append #[led q, .int .i64 no, .int .i64 mk, .slice p acc.length c] w fun e w' => ∃ n : Int, e = .returned (.int .i64 n) ∧ ∃ (R' : List Own) (Φ' : PW), Stable Φ' ∧ Ctx W w' (R' ++ G1) Φ' ∧
            Br (decide (n ≠ 0)) (∀ (w : World) (F1 : List Own), Ctx W w (R' ++ F1) Φ' → K (.returned (.tuple #[.pointer none, .bool false])) w) (I64 (m - 1) ∧ ∃ (R2 : List Own) (Φ2 : PW), ∃ k2 : Nat, Stable Φ2 ∧ (∀ (w : World) (F1 : List Own), Ctx W w (R' ++ F1) Φ' → Ctx W w (R2 ++ F1) Φ2) ∧ INV (m - 1) R2 Φ2 k2 ∧ k2 < m.toNat) := by
        intro sl acc p c ds hlr hal har w G1 cx
        rw [hlr] at hbR
        have hbR : batR ld st = if checkP ld no mk acc = 0 then some (appP ld no mk acc, sl) else none := hbR
        obtain ⟨cx1, hsl1, _, e1, e2⟩ := Ctx.freeze (α := LineD) cx cx.phi.2
        have cx2 : Ctx W w ((LedO q ld ++ (rd b sl :: S)) ++ G1) (fun M w => (Φ M w ∧ LF q ld M w) ∧ Sl M w p acc) := perm3 (A := [rd b sl]) (B := LedO q ld) (R := S) ((cx1.add hsl1).weak fun M w h => ⟨h.1.1, h.2⟩)
        have hTa : Has (fun M w => (Φ M w ∧ LF q ld M w) ∧ Sl M w p acc) TabI := ⟨fun M w h => (hΦ M w h.1.1).1⟩
        have hFa : Has (fun M w => (Φ M w ∧ LF q ld M w) ∧ Sl M w p acc) (LF q ld) := ⟨fun M w h => h.1.2⟩
        have hLa : Has (fun M w => (Φ M w ∧ LF q ld M w) ∧ Sl M w p acc) (fun M w => Sl M w p acc) := ⟨fun M w h => h.2⟩
        have hsta : Stable (fun M w => (Φ M w ∧ LF q ld M w) ∧ Sl M w p acc) := inferInstance
        refine Append_to (R := rd b sl :: S) (L := acc) (no := no) (mark := mk) hq hs hv.v.cnt (by omega) har cx2 (fun hz => ?_) (fun q' hz hf hlb3 hq' st4 => ?_)
        · rw [if_neg hz] at hbR
          rw [batsR_n hne hbR] at hbr
          refine Br.intro (fun _ => fun w G2 cx => h0 (by rw [hall, hbr]; rfl) w ?_) (fun h => absurd (Decidable.not_not.1 (of_decide_eq_false h)) hz)
          have cx2 : Ctx W w ((LedO q ld ++ [rd b sl]) ++ S) (fun M w => (Φ M w ∧ LF q ld M w) ∧ Sl M w p acc) := cx.left.re (by simp)
          exact cx2.right.weak fun M w h => h.1.1
        · rw [if_pos hz] at hbR
          rw [batsR_s hne hbR] at hbr
          have hst5 : Stable (fun M w => Φ M w ∧ LF q' (appP ld no mk acc) M w) := instStableAnd Φ (fun M w => LF q' (appP ld no mk acc) M w)
          refine Br.intro (fun h => absurd rfl (of_decide_eq_true h)) (fun _ => ⟨by unfold I64; omega, _, _, (m - 1).toNat, hst5, fun w G2 cx => perm3 (A := LedO q' (appP ld no mk acc)) (B := [rd b sl]) (R := S) (cx.weak fun M w h => ⟨h.1.1.1, h.2⟩), (hI _ _ _ _).2 ⟨sl, appP ld no mk acc, q', hlb3, hq', happ hmk.symm hz hf (by omega), rfl, rfl, rfl, by omega, by omega, hbr⟩, by omega⟩)
      refine exI_mk (fun p n c kk R' Φ' k2 => ∃ (sl : RdS) (acc : List LineD) (ds : List Value), n = acc.length ∧ R' = .buf p n c ds 51 7 :: rd b sl :: (LedO q ld ++ S) ∧ Φ' = (fun M w => (Φ M w ∧ LF q ld M w) ∧ Elems M w ds acc) ∧ k2 = kk.toNat ∧ 0 ≤ kk ∧ kk ≤ 9223372036854775807 ∧ acc.length * 7 + sl.1.length ≤ st3.1.length ∧ (∀ x ∈ acc, x.row.length ≤ 1000000) ∧ linesR (ld.lines.length + 1) no k0.toNat st3 [] = linesR (ld.lines.length + 1) no kk.toNat sl acc)
        ⟨⟨.buf none 0 0 [] 51 7 :: rd b st3 :: (LedO q ld ++ S), fun M w => (Φ M w ∧ LF q ld M w) ∧ Elems M w [] ([] : List LineD), _, inferInstance, fun w G cx => (cx.nobuf 51 7).weak fun M w h => ⟨h, Elems.nil⟩, st3, [], [], rfl, rfl, rfl, rfl, hkn.1, hkn.2, by simp, by simp, rfl⟩, ?_⟩
      rintro p n c kk R2 Φ2 k2 _ ⟨sl, acc, ds, rfl, rfl, rfl, rfl, hk0, hk1, hal, har, hlr⟩
      have hst2 : Stable (fun M w => (Φ M w ∧ LF q ld M w) ∧ Elems M w ds acc) := inferInstance
      have hT2 : ∀ M w, ((Φ M w ∧ LF q ld M w) ∧ Elems M w ds acc) → NumI M w := fun M w h => hΦ M w h.1.1
      refine Br.intro (fun hkp => ?_) (fun hkz => ?_)
      · have hkp := of_decide_eq_true hkp
        refine fun w G cx => Left_to (S := .buf p acc.length c ds 51 7 :: (LedO q ld ++ S)) cx.swap ?_
        clear cx
        refine Br.intro (fun hlp => ?_) (fun hlz => fun w G cx => ?_)
        · have hlp := of_decide_eq_true hlp
          have hnel : sl.1 ≠ [] := fun e => by rw [e] at hlp; simp at hlp
          rw [show kk.toNat = (kk - 1).toNat + 1 by omega] at hlr
          have hst2b : Stable (fun M w => (Φ M w ∧ LF q ld M w) ∧ Elems M w ds acc) := hst2
          refine fun w G cx => (Next_q (q := q) hs).toI (R := rd b sl :: .buf p acc.length c ds 51 7 :: S) (perm3 (A := [rd b sl, .buf p acc.length c ds 51 7]) (B := LedO q ld) (R := S) cx) ?_
          clear cx
          refine ⟨by unfold I64; omega, fun w G cx => RInt_to (S := .buf p acc.length c ds 51 7 :: (LedO q ld ++ S)) hT2 (by omega) (perm3 (A := LedO q ld) (B := [rd b sl, .buf p acc.length c ds 51 7]) (R := S) cx) ?_⟩
          clear cx
          have q1 : (rdInt sl).2.1.length ≤ sl.1.length := stepN_len 59 (-9223372036854775808) sl
          obtain ⟨q2, q3⟩ := stepT_len (rdInt sl).2
          have q4 : (rdInt (stepT (rdInt sl).2).2).2.1.length ≤ (stepT (rdInt sl).2).2.1.length := stepN_len 59 (-9223372036854775808) _
          have q5 : (rdInt (rdInt (stepT (rdInt sl).2).2).2).2.1.length ≤ (rdInt (stepT (rdInt sl).2).2).2.1.length := stepN_len 59 (-9223372036854775808) _
          refine fun _ w G cx => Text_to (S := .buf p acc.length c ds 51 7 :: (LedO q ld ++ S)) hT2 (by omega) cx ?_
          clear cx
          refine fun w G cx => ReadRowS_to (R := rd b (stepT (rdInt sl).2).2 :: .buf p acc.length c ds 51 7 :: (LedO q ld ++ S)) hT2 (stepT (rdInt sl).2).1 (by omega) cx (fun hn => ?_) (fun r rp rc hr g1 g2 hst6 => ?_)
          · clear cx
            rw [linesR_n hnel (lineR_none hn)] at hlr
            rw [hlr] at hbR
            rw [batsR_n hne (hbR.trans rfl)] at hbr
            refine fun w G cx => RInt_to (S := .buf p acc.length c ds 51 7 :: (LedO q ld ++ S)) hT2 (by omega) cx ?_
            clear cx
            refine fun w G cx => RInt_to (S := .buf p acc.length c ds 51 7 :: (LedO q ld ++ S)) hT2 (by omega) cx ?_
            clear cx
            refine fun w G cx => RInt_to (S := .buf p acc.length c ds 51 7 :: (LedO q ld ++ S)) hT2 (by omega) cx ?_
            clear cx
            refine Br.intro (fun _ => fun w G cx => h0 (by rw [hall, hbr]; rfl) w ?_) (fun h => by cases h)
            exact (((Ctx.drop1 (Ctx.drop1 cx.left)).weak fun M w h => h.1.1)).right
          · clear cx
            obtain ⟨x, hx⟩ : ∃ x, rdL sl (ld.lines.length + 1 + acc.length) no r = x := ⟨_, rfl⟩
            have hls : lineR (ld.lines.length + 1 + acc.length) no sl = some (x.1, x.2) := by rw [lineR_some hr, hx]
            obtain ⟨z1, z2, z3, z4, z5, z6, z7, z8, z9⟩ := line_eats hls
            rw [linesR_s hnel hls] at hlr
            have hT6 : ∀ M w, (((Φ M w ∧ LF q ld M w) ∧ Elems M w ds acc) ∧ Sl M w rp r) → NumI M w := fun M w h => hΦ M w h.1.1.1
            refine fun w G cx => RInt_to (S := .buf p acc.length c ds 51 7 :: (LedO q ld ++ S)) hT6 (by omega) cx ?_
            clear cx
            refine fun w G cx => RInt_to (S := .buf p acc.length c ds 51 7 :: (LedO q ld ++ S)) hT6 (by omega) cx ?_
            clear cx
            refine fun w G cx => RInt_to (S := .buf p acc.length c ds 51 7 :: (LedO q ld ++ S)) hT6 (by omega) cx ?_
            clear cx
            refine Br.intro (fun h => by cases h) (fun _ => fun kb w G cx => ?_)
            have hxr : x.1.row = r := by rw [← hx]; rfl
            have hxe : x.2 = (rdInt (rdInt (rdInt (stepT (rdInt sl).2).2).2).2).2 := by rw [← hx]; rfl
            have hxc : x.1.cells rp rc = [.int .i64 (((ld.lines.length : Int) + 1) + acc.length), .int .i64 no, .int .i64 (rdInt sl).1, .slice rp r.length rc, .int .i64 (rdInt (stepT (rdInt sl).2).2).1, .int .i64 (rdInt (rdInt (stepT (rdInt sl).2).2).2).1, .int .i64 (rdInt (rdInt (rdInt (stepT (rdInt sl).2).2).2).2).1] := by rw [← hx]; rfl
            have hin : x.1.In := ⟨by rw [z8]; unfold I64; omega, by rw [z9]; exact hi64a, z4, z5, z6, z7⟩
            rw [← hxe, ← hxc] at cx
            have cx1 : Ctx W w (.blk kb (x.1.cells rp rc) 51 :: .buf p acc.length c ds 51 7 :: (rd b x.2 :: (LedO q ld ++ S)) ++ G) (fun M w => ((Φ M w ∧ LF q ld M w) ∧ Sl M w rp r) ∧ Elems M w ds acc) := (cx.perm ((List.Perm.swap _ _ _).cons _)).weak fun M w h => ⟨⟨h.1.1, h.2⟩, h.1.2⟩
            obtain ⟨p', c', w', hrun, cx'⟩ := pushL (PS := fun M w => (Φ M w ∧ LF q ld M w) ∧ Sl M w rp r) (fun M w h => rep_line (by rw [hxr]; exact g1) g2 hin (by rw [hxr]; exact h.2)) (by omega) cx1
            refine ⟨p', _, c', w', hrun, _, _, inferInstance, cx'.weak fun M w h => (⟨h.1.1, h.2⟩ : (Φ M w ∧ LF q ld M w) ∧ Elems M w _ (acc ++ [x.1])), by unfold I64; omega, _, _, (kk - 1).toNat, inferInstance, fun w G cx => cx, ⟨x.2, acc ++ [x.1], _, rfl, rfl, rfl, rfl, by omega, by omega, by rw [List.length_append, List.length_singleton]; omega, fun y hy => ?_, hlr⟩, by omega⟩
            rcases List.mem_append.1 hy with hy | hy
            · exact har y hy
            · rw [List.mem_singleton.1 hy]; omega
        · have hz : sl.1 = [] := List.eq_nil_of_length_eq_zero (by have := of_decide_eq_false hlz; omega)
          rw [linesR_e hz] at hlr
          exact app hlr hal har cx.swap
      · have hz := of_decide_eq_false hkz
        rw [show kk.toNat = 0 by omega, linesR_z] at hlr
        exact fun w G cx => app hlr hal har cx
    · have hz : st.1 = [] := List.eq_nil_of_length_eq_zero (by have := of_decide_eq_false hz; omega)
      rw [batsR_e hz] at hbr
      exact fun w G cx => fin hq hs hv.v hst1 hbr cx
  · have hz := of_decide_eq_false hz
    have hmz : m.toNat = 0 := by omega
    rw [hmz, batsR_z] at hbr
    exact fun w G cx => fin hq hs hv.v hst1 hbr cx
end
end Go.Proofs.YtbkpfhhhbhaecaaGreatDoor
end

/-
  Lists of lines that are the same, walked (for seats without Copy).
-/
section
set_option linter.unusedVariables false
set_option linter.unusedSimpArgs false
namespace Go.Proofs.YtbkpfhhhbhaecaaGreatDoor
open Go.Vc


section
variable {Φ : PW} {q : LP} {st : LedD} {W w : World} {R S G : List Own} {p r : Option Addr} {cap cap2 : Nat}

/-- lists of lines, compared -/
theorem SameLines_in [Stable Φ] {a b : List LineD} {csa csb : List Value} (srcA : Src [] Φ p a csa) (srcB : Src [] Φ r b csb) (hca : Rows7 csa a) (hcb : Rows7 csb b) (hlen : a.length ≤ 1000000) (hrow : ∀ x ∈ a, x.row.length ≤ 1000000) :
    GivesIn Φ Tryz.prog F.errataref41_SameLines #[.slice p a.length cap, .slice r b.length cap2] (.bool (sameLs a b)) := by
  refine gives_in (Berrataref41_SameLines_run p a.length cap r b.length cap2) fun W R => Br.intro (fun hn => fun w G cx => ⟨?_, cx.left⟩) (fun hn => ?_)
  · have hn := of_decide_eq_true hn
    unfold sameLs
    rw [decide_eq_false fun e => hn (by rw [e])]; rfl
  have hn : b.length = a.length := by have := Decidable.not_not.1 (of_decide_eq_false hn); omega
  have he : sameLs a b = (a.zip b).all fun x => sameL x.1 x.2 := by unfold sameLs; rw [decide_eq_true hn.symm, Bool.true_and]
  rw [he]
  have hz : (a.zip b).length = a.length := by rw [List.length_zip, hn, Nat.min_self]
  refine exI_mk (fun n R' Φ' k => ∃ i : Nat, n = i ∧ i ≤ a.length ∧ R' = R ∧ Φ' = Φ ∧ k = a.length - i ∧ ((a.zip b).take i).all (fun x => sameL x.1 x.2) = true) ⟨⟨R, Φ, _, inferInstance, fun w F c => c, 0, rfl, Nat.zero_le _, rfl, rfl, rfl, rfl⟩, ?_⟩
  rintro n R1 Φ1 k _ ⟨i, rfl, hi, rfl, rfl, rfl, hs⟩
  refine Br.intro (fun hlt => ?_) (fun hge => fun w G cx => ⟨?_, cx.left⟩)
  · have hlt : i < a.length := by have := of_decide_eq_true hlt; omega
    have hlb : i < b.length := by omega
    obtain ⟨g1, o1, e1⟩ := srcA.ptr (by omega)
    obtain ⟨g2, o2, e2⟩ := srcB.ptr (by omega)
    obtain ⟨x1, y1, h1, _⟩ := hca i hlt
    obtain ⟨x2, y2, h2, _⟩ := hcb i hlb
    have hA : Has Φ1 (fun M w => Sl M w x1 a[i].row) := ⟨fun M w h => src_sl srcA hlt h1 h⟩
    have hB : Has Φ1 (fun M w => Sl M w x2 b[i].row) := ⟨fun M w h => src_sl srcB hlb h2 h⟩
    have hat : (a.zip b)[i]'(by omega) = (a[i], b[i]) := List.getElem_zip ..
    refine ⟨R1, Φ1, inferInstance, fun w G cx => cx, by omega, ptrK_intro g1 o1 e1 ⟨by omega, ptrK_intro g2 o2 e2 ⟨a[i].no, a[i].batch, a[i].time, x1, a[i].row.length, y1, a[i].n, a[i].cause, a[i].why, fun w G cx => ⟨_, _, _, _, _, _, _, _, _, by rw [Int.toNat_natCast]; exact src_at (S := []) (G := R1 ++ G) srcA e1 cx h1, rfl⟩, b[i].no, b[i].batch, b[i].time, x2, b[i].row.length, y2, b[i].n, b[i].cause, b[i].why, fun w G cx => ⟨_, _, _, _, _, _, _, _, _, by rw [Int.toNat_natCast]; exact src_at (S := []) (G := R1 ++ G) srcB e2 cx h2, rfl⟩, fun w G cx => ?_⟩⟩⟩
    refine (SameLine_in (hA := hA) (hB := hB) (cap := y1) (cap2 := y2) a[i] b[i] (hrow _ (List.getElem_mem _))).toB cx ?_
    clear cx
    refine Br.intro (fun h => fun w G cx => ⟨?_, cx.left⟩) (fun h => ⟨by unfold I64; omega, R1, Φ1, a.length - (i + 1), inferInstance, fun w G cx => cx, ⟨i + 1, rfl, hlt, rfl, rfl, rfl, ?_⟩, by omega⟩)
    · have h : sameL a[i] b[i] = false := by simpa using h
      rw [List.all_eq_false.2 ⟨(a.zip b)[i]'(by omega), List.getElem_mem _, by rw [hat, h]; simp⟩]
    · have h : sameL a[i] b[i] = true := by simpa using h
      rw [List.take_succ_eq_append_getElem (by omega), List.all_append, hs, hat]
      simp [h]
  · have hge : i = a.length := by have := of_decide_eq_false hge; omega
    subst hge
    rw [← hz, List.take_length] at hs
    rw [hs]
end
end Go.Proofs.YtbkpfhhhbhaecaaGreatDoor
end

/-
  The law LedgerBack, walked.
-/
section
set_option linter.unusedVariables false
set_option linter.unusedSimpArgs false
namespace Go.Proofs.YtbkpfhhhbhaecaaGreatDoor
open Go.Vc


/-! ### plain -/
theorem Made.right {st : LedD} (h : Made st) : ∀ x ∈ st.lines, rightR x.row = true := by
  induction h with
  | none => exact fun x hx => by simp at hx
  | @app st no mark L h hz ih =>
    intro x hx
    rcases List.mem_append.1 hx with hx | hx
    · exact ih x hx
    · exact (check_ok hz).right x hx
theorem lineB_size2 {x : LineD} (h : LineW x) (hr : rightR x.row = true) : (lineB x).size ≤ 3300 := by
  have h1 := intB_size h.inn.time
  have h2 := intB_size h.inn.n
  have h3 := intB_size h.inn.cause
  have h4 := intB_size h.inn.why
  have hl := right_len hr
  have hL := rowL_len (m := 200) (r := x.row) (fun v hv => ⟨(h.val v hv).1, right_text2 hr v hv⟩) (by decide) (by omega)
  have : x.row.length * (200 + 64) ≤ 12 * 264 := Nat.mul_le_mul hl (Nat.le_refl _)
  have h5 : (rowB x.row).size ≤ 3189 := by unfold rowB; rw [size_list]; omega
  have h6 := textB_size (s := rowB x.row) (by omega)
  unfold lineB
  rw [size_app, size_app, size_app, size_app]; omega
theorem linesL_len2 : ∀ {l : List LineD}, (∀ x ∈ l, (lineB x).size ≤ 3300) → (linesL l).length ≤ l.length * 3300
  | [], _ => by simp [linesL]
  | x :: l, h => by
    have ih := linesL_len2 (l := l) fun y hy => h y (by simp [hy])
    have hx := h x (by simp)
    show ((lineB x).data.toList ++ linesL l).length ≤ _
    rw [List.length_append, list_size, List.length_cons, Nat.add_mul]; omega
theorem segs_len2 {st : LedD} (hw : ∀ x ∈ st.lines, (lineB x).size ≤ 3300) (hb : BatsOk st) (hs : LedS st) : ∀ i, i ≤ st.bats.length → (segsL st i).length ≤ i * 63 + begP st.bats i * 3300
  | 0, _ => by simp [segsL, begP]
  | i + 1, hi => by
    have ih := segs_len2 hw hb hs i (by omega)
    have hlt : i < st.bats.length := by omega
    have h1 := hb.1 i hlt
    have h2 := hb.2 st.bats[i] (List.getElem_mem _)
    have h3 := hs.stop st.bats[i] (List.getElem_mem _)
    have h4 := hs.lines
    have g1 := batB_size h2.1 h2.2 (s := begP st.bats i) (by omega)
    have g2 := linesL_len2 (l := (st.lines.drop (begP st.bats i)).take (st.bats[i].stop - begP st.bats i)) fun x hx => hw x (List.mem_of_mem_drop (List.mem_of_mem_take hx))
    rw [segsL_step, begP_succ hlt, List.length_append]
    unfold segL
    rw [List.getElem?_eq_getElem hlt]
    simp only
    rw [List.length_append, list_size]
    have g3 : ((st.lines.drop (begP st.bats i)).take (st.bats[i].stop - begP st.bats i)).length = st.bats[i].stop - begP st.bats i := by
      rw [List.length_take, List.length_drop]; omega
    rw [g3] at g2
    have : begP st.bats i * 3300 + (st.bats[i].stop - begP st.bats i) * 3300 = st.bats[i].stop * 3300 := by rw [← Nat.add_mul]; congr 1; omega
    omega
theorem ledL_len {st : LedD} (hm : Made st) (hw : ∀ x ∈ st.lines, LineW x) (hb : BatsOk st) (hs : LedS st) (h1 : st.lines.length ≤ 300) (h2 : st.bats.length ≤ 25) : (ledL st).length ≤ 1000000 := by
  have h := segs_len2 (fun x hx => lineB_size2 (hw x hx) (hm.right x hx)) hb hs st.bats.length (Nat.le_refl _)
  rw [hm.inv.1.full] at h
  have h3 := natB_size (n := (st.bats.length : Int)) (by unfold I64; omega)
  have h4 : st.lines.length * 3300 ≤ 300 * 3300 := Nat.mul_le_mul h1 (Nat.le_refl _)
  unfold ledL
  rw [List.length_append, list_size]
  omega

section
variable {Φ : PW} {W w : World} {R S G : List Own} {p : Option Addr} {cap : Nat}

theorem LRead_to [Stable Φ] (hΦ : ∀ M w, Φ M w → NumI M w) (s : ByteArray) (hl : s.size ≤ 1000000) (c : Ctx W w (R ++ G) Φ) {K : Option Addr → Bool → List Own → PW → Prop}
    (h0 : readLed s.data.toList = none → K none false R Φ)
    (h1 : ∀ q st, readLed s.data.toList = some st → LedQ q st → LedS st → Inv st → Stable (fun M w => Φ M w ∧ LF q st M w) → K (some ⟨q.lb, 0, none⟩) true (LedO q st ++ R) (fun M w => Φ M w ∧ LF q st M w)) :
    Calls Tryz.prog F.ledger_Read #[.string s] w fun e w' => ∃ p b, e = .returned (.tuple #[.pointer p, .bool b]) ∧ ∃ R' Φ', Stable Φ' ∧ Ctx W w' (R' ++ G) Φ' ∧ K p b R' Φ' :=
  LRead_use (S := R ++ G) hΦ s.data.toList (by rw [list_size]; exact hl) c (fun h w' c => ⟨none, false, rfl, R, Φ, inferInstance, c, h0 h⟩) fun q st w' h hq hs hi c =>
    ⟨_, true, rfl, LedO q st ++ R, _, instStableAnd Φ (fun M w => LF q st M w), c.re (by simp), h1 q st h hq hs hi (instStableAnd Φ (fun M w => LF q st M w))⟩

set_option maxHeartbeats 8000000 in
theorem Back_pin [Stable Φ] (hN : ∀ M w, Φ M w → NumI M w) {l : List PushD} {g o : Nat} {cs : List (List Value)} (hp : 0 < l.length → p = some ⟨g, o, none⟩) (hP : ∀ M w, Φ M w → Pin g o cs l M w) (hlen : l.length ≤ maxLen) (s : ByteArray) :
    GivesIn Φ Tryz.prog F.erratalaw41_LedgerBack #[.slice p l.length cap, .string s] (.bool true) := by
  have hT : Has Φ TabI := ⟨fun M w h => (hN M w h).1⟩
  refine gives_in (Berratalaw41_LedgerBack_run p l.length cap s) fun W R => ?_
  refine fun w G cx => small41_in.toB cx fun w G cx => (Few41_in hp hP hlen).toB cx ?_
  clear cx
  refine Br.intro (fun _ => fun w G cx => ⟨rfl, cx.left⟩) (fun hfew => ?_)
  obtain ⟨hl25, hpu⟩ := few_out (l := l) (n := 25) (by simpa using hfew)
  refine Br.intro (fun _ => fun w G cx => ⟨rfl, cx.left⟩) (fun hs2 => ?_)
  have hs2 : s.size ≤ 2000 := by have := of_decide_eq_false hs2; omega
  refine fun w G cx => made_to (p := p) (cap := cap) hp hP (by omega) (fun x hx => hpu x hx) cx fun q hq hi st0 => Br.intro (fun h => by cases h) (fun _ => ?_)
  have hm := made_made l
  obtain ⟨st, hst⟩ : ∃ st, madeP l = st := ⟨_, rfl⟩
  rw [hst] at hq hi st0 hm ⊢
  have hs := hi.s
  have hn1 := hi.n1
  have hn2 := hi.n2
  clear cx
  refine fun w G cx => ?_
  have hw := lines_w hq hs (cx.phi.2)
  have hlen1 := ledL_len hm hw hi.v.bats hs (by omega) (by omega)
  have hrd := readLed_bytes hm hw hi.v.bats.2 (by omega) (by omega)
  have hsz : ∀ L : List UInt8, (⟨L.toArray⟩ : ByteArray).size = L.length := size_list
  refine (Bytes_q hq hs hi.v.bats).toS cx fun w G cx => LRead_to (s := ⟨(ledL st).toArray⟩) (fun M w h => hN M w h.1) (by rw [hsz]; exact hlen1) cx (fun h => ?_) (fun qb st2 h hqb hs3 hi3 stB => ?_)
  · have h : readLed (ledL st) = none := h
    rw [hrd] at h
    cases h
  have h : readLed (ledL st) = some st2 := h
  rw [hrd] at h
  cases h
  clear cx
  refine fun w G cx => Br.intro (fun h => by cases h) (fun _ => ?_)
  clear cx
  refine fun w G cx => LRead_to (s := s) (fun M w h => hN M w h.1.1) (by omega) cx (fun hno => Br.intro (fun h => by cases h) (fun _ => Br.intro (fun h => by cases h) (fun _ => Br.intro (fun _ => fun w G cx => (Bytes_q hqb hs hi.v.bats).toS (R := LedO q st ++ R) cx ?_) (fun h => by cases h)))) (fun qc stc hc hqc hsc hic stC => Br.intro (fun h => by cases h) (fun _ => Br.intro (fun _ => ?_) (fun h => by cases h)))
  rotate_left
  refine fun w G cx => (Bytes_q hqc hsc hic.bats).toS (R := LedO qb st ++ (LedO q st ++ R)) cx (Br.intro (fun h => absurd ?e1 (of_decide_eq_true h)) (fun _ => Br.intro (fun _ => fun w G cx => (Bytes_q hqb hs hi.v.bats).toS (R := LedO q st ++ R) (Φ := fun M w => (Φ M w ∧ LF q st M w) ∧ LF qb st M w) ?e2 ?e3) (fun h => by cases h)))
  case e1 => rw [readLed_is hc]
  case e2 => exact (Ctx.dropF (Q := LedO qc stc) cx).weak fun M w h => h.1
  all_goals
    try clear cx
    refine fun w G cx => (Bytes_q hq hs hi.v.bats).toS (R := LedO qb st ++ R) (perm3 (A := LedO qb st) (B := LedO q st) (R := R) cx) ?_
    clear cx
    rw [decide_eq_true rfl]
    refine Br.intro (fun _ => ?_) (fun h => by cases h)
    refine fun w G cx => (Lines_q hq hs).src (R := LedO qb st ++ R) cx fun pa ca csA ea1 ea2 hta hca stA => ?_
    clear cx
    refine fun w G cx => (Lines_q hqb hs).src (R := LedO q st ++ R) (perm3 (A := LedO q st) (B := LedO qb st) (R := R) cx) fun pb cb csB eb1 eb2 htb hcb stD => ?_
    clear cx
    have srcA : ∀ {Ψ : PW} (h : Has Ψ (fun M w => SrcF pa st.lines csA M w)), Src [] Ψ pa st.lines csA := fun h => src_fact hta h.go
    have srcB : ∀ {Ψ : PW} (h : Has Ψ (fun M w => SrcF pb st.lines csB M w)), Src [] Ψ pb st.lines csB := fun h => src_fact htb h.go
    have hsame := fun (Ψ : PW) (s : Stable Ψ) (x1 : Has Ψ (fun M w => SrcF pa st.lines csA M w)) (x2 : Has Ψ (fun M w => SrcF pb st.lines csB M w)) => SameLines_in (Φ := Ψ) (cap := ca) (cap2 := cb) (srcA x1) (srcB x2) hca hcb (by omega) hs.rows
    rw [sameLs_refl] at hsame
    refine fun w G cx => (hsame _ inferInstance inferInstance inferInstance).toB cx ?_
    clear cx hsame
    refine Br.intro (fun _ => ?_) (fun h => by cases h)
    refine fun w G cx => (Mark_q hq hs).toI (R := LedO qb st ++ R) (perm3 (A := LedO qb st) (B := LedO q st) (R := R) cx) ?_
    clear cx
    refine fun w G cx => (Mark_q hqb hs).toI (R := LedO q st ++ R) (perm3 (A := LedO q st) (B := LedO qb st) (R := R) cx) ?_
    clear cx
    rw [decide_eq_true rfl]
    refine Br.intro (fun _ => ?_) (fun h => by cases h)
    refine fun w G cx => (Last_q hq hs).toI (R := LedO qb st ++ R) (perm3 (A := LedO qb st) (B := LedO q st) (R := R) cx) ?_
    clear cx
    refine fun w G cx => (Last_q hqb hs).toI (R := LedO q st ++ R) (perm3 (A := LedO q st) (B := LedO qb st) (R := R) cx) ?_
    clear cx
    refine fun w G cx => ⟨by rw [decide_eq_true rfl], ((Ctx.dropF (Q := LedO q st) (T := R) (G := []) (Ctx.dropF (Q := LedO qb st) (T := LedO q st ++ R) (G := []) (cx.left.re (by simp)))).re (by simp)).weak fun M w h => ?_⟩
    exact h.1.1.1.1

theorem Back_in [Stable Φ] (hN : ∀ M w, Φ M w → NumI M w) {l : List PushD} [hL : Has Φ (fun M w => Sl M w p l)] (hlen : l.length ≤ maxLen) (s : ByteArray) :
    GivesIn Φ Tryz.prog F.erratalaw41_LedgerBack #[.slice p l.length cap, .string s] (.bool true) :=
  .pinned hL.go fun g o cs hp => Back_pin (Φ := fun M w => Φ M w ∧ Pin g o cs l M w) (fun M w h => hN M w h.1) hp (fun M w h => h.2) hlen s
end
end Go.Proofs.YtbkpfhhhbhaecaaGreatDoor
end

/-
  From what a row lists as laid to the facts of the walk.
-/
section
set_option linter.unusedVariables false
set_option linter.unusedSimpArgs false
namespace Go.Proofs.YtbkpfhhhbhaecaaGreatDoor
open Go.Vc Go.RowKit


theorem la_row (u : TypeId) (h : Tryz.prog.typeName? 3 u = some "*errors.errorString") : u = 173 :=
  typeName_ptr_named (nm := "errors.errorString") (by rw [show "*" ++ "errors.errorString" = "*errors.errorString" by decide]; kernel_rfl) (by kernel_rfl) (by decide) u (by rw [show "*" ++ "errors.errorString" = "*errors.errorString" by decide]; exact h)

theorem la_err {n : String} {text : List UInt8} {r : List (String × DataW Unit)} {W : World} {g : Nat} (h : laidMet Tryz.prog ((n, .iface "*errors.errorString" (.ptr (.agg [.lit (.string text)]))) :: r) W)
    (hg : Tryz.prog.globalNamed n = some g) (ht : (Tryz.prog.globals[g]?).map (·.type) = some 95) : ErrAt g [] W := by
  obtain ⟨a, s, hv, _⟩ := laid_sentinel h hg ht Tryz.underlying95 la_row Tryz.underlying173 Tryz.underlying175 rfl rfl Tryz.underlying9 (by kernel_rfl) (by kernel_rfl)
  exact ⟨by simp, _, by have h0 := World.var?_cell hg hv 0; simpa using h0, .inr ⟨_, _, rfl⟩⟩

theorem la_num {W : World} (h : laidMetH Tryz.prog Rows.ledgerBackRow.laid W) : NumI [] W := by
  rw [MakeChecks.laidMetH_plain Tryz.prog Rows.ledgerBackRow.laid W (by kernel_rfl)] at h
  have h2 := h.tail.tail
  exact ⟨Tab.start (Lib.tabIs_of_head (k := .u64) (zs := Lib.pow10Tab) (g := 0) (t := 160) (e := 143) (n := 20) (by kernel_rfl) (by kernel_rfl) (by kernel_rfl) (by kernel_rfl) (by kernel_rfl) (by kernel_rfl) h2),
    la_err h2.tail.tail (by kernel_rfl) (by kernel_rfl), la_err h2.tail (by kernel_rfl) (by kernel_rfl)⟩

end Go.Proofs.YtbkpfhhhbhaecaaGreatDoor
end

section
set_option linter.unusedVariables false
set_option linter.unusedSimpArgs false
namespace Go.Proofs.YtbkpfhhhbhaecaaGreatDoor
open Go.ChangeShapes Go.WideShapes Go.ChangeAt Go.RowKit Go.Vc


theorem df_own : ownKnob Tryz.prog.godebug = none := by kernel_rfl
theorem df_laid : laidOutB Tryz.prog = true := by kernel_rfl

theorem trodAll_n {H : Type} {enc : TypeId × Value → H} {P : Program} {w : World} {base : Nat} {spare : Nat → Bool} {held : Bool} {t0 t1 : TypeId} {args : Array Value} {ds : List (DataW H)} {ps : List MemPlace} (h : DataW.TrodAll enc P w base spare held [t0, t1] args.toList ds ps) :
    ∃ v0 v1 d0 d1 p0 p1, args = #[v0, v1] ∧ ds = [d0, d1] ∧ ps = p0 ++ p1 ∧ DataW.Trod enc P w base spare held t0 v0 d0 p0 ∧ DataW.Trod enc P w base spare held t1 v1 d1 p1 := by
  obtain ⟨v0, vs0, d0, ds0, p0, q0, hargs, rfl, rfl, h0, h⟩ := trodAll_cons h
  obtain ⟨v1, vs1, d1, ds1, p1, q1, rfl, rfl, rfl, h1, h⟩ := trodAll_cons h
  obtain ⟨rfl, rfl, rfl⟩ := trodAll_nil h
  exact ⟨v0, v1, d0, d1, p0, p1, by cases args; simp_all, rfl, by simp, h0, h1⟩

theorem door_met (os : Os) (args : Array Value) : laidMetH Tryz.prog Rows.ledgerBackRow.laid ((World.doorLaid Tryz.prog 400 os).forCall (fun _ _ => 0) ⟨#[], args, []⟩).memory :=
  laidMetH_of_parts3 (fuel := 8) (laidMet_of_run' 8 (by kernel_rfl) (by kernel_rfl)) (by kernel_rfl) (by kernel_rfl)

set_option maxRecDepth 100000 in
theorem law_lifted (os : Os) (started : os.Started) (H : Type) (enc : TypeId × Value → H) :
    ReturnsInHanded {} Tryz.checked os 4 .any (fun w args => (Rows.ledgerBackSpec.pre enc Tryz.prog Tryz.f4 Rows.ledgerBackRow.domain false w args ∧ laidMetH Tryz.prog Rows.ledgerBackRow.laid w) ∧ sizedMet enc Tryz.prog Tryz.f4 (OpenSpec.ofChange Rows.ledgerBackSpec) false w args) (Rows.ledgerBackSpec.post enc Tryz.prog Tryz.f4 false true false false) := by
  refine lawTrueLaid (C := Tryz.checked) (tb := 4) df_own started (by kernel_rfl) Tryz.func4 df_laid rfl ?_ rfl Tryz.underlying4 (by kernel_rfl)
    (ChangeSpec.witness_shaped (enc := enc) (C := Tryz.checked) (os := os) (X := fun w _ => laidMetH Tryz.prog Rows.ledgerBackRow.laid w) false (World.doorLaid Tryz.prog 400 os) #[.slice none 0 0, .string .empty] 8 rfl (World.shaped_of_RefB (by kernel_rfl) (by kernel_rfl)) (by kernel_rfl) (by kernel_rfl) (by kernel_rfl) (door_met os _)) ?_
  · intro ds hd
    match ds, hd with
    | [_, _], _ => exact ⟨rfl, rfl, rfl⟩
  · intro W base args ds p hval0 hA0 _ hL
    have hval : ∀ (j : Nat) t v, Tryz.f4.params[j]? = some t → args[j]? = some v → Value.okWide Tryz.prog W .any base t v := hval0
    have hA : DataW.TrodAll enc Tryz.prog W 0 (fun _ => true) true Tryz.f4.params.toList args.toList ds p := hA0
    rw [Tryz.params4] at hA hval
    obtain ⟨v0, v1, d0, d1, p0, p1, rfl, rfl, rfl, h0, h1⟩ := trodAll_n hA
    obtain ⟨lp, lc, l, rfl, la, lb, s0⟩ := open_sl (α := PushD) 12 Tryz.underlying22 (hval 0 22 v0 rfl rfl) (by kernel_rfl) h0
    obtain ⟨s, rfl, rfl, rfl, sw⟩ := Go.ChangeMaps.open_string Tryz.underlying9 (hval 1 9 v1 rfl rfl) h1
    have st0 : Stable (fun M w => Sl M w lp l) := inferInstance
    have st1 : Stable (fun M w => NumI M w ∧ Sl M w lp l) := instStableAnd (fun M w => NumI M w) (fun M w => Sl M w lp l)
    have fin : GivesIn (fun M w => NumI M w ∧ Sl M w lp l) Tryz.prog 4 _ (.bool true) := Back_in (Φ := (fun M w => NumI M w ∧ Sl M w lp l)) (p := lp) (cap := lc) (l := l) (s := s) (hN := fun _ _ h => h.1) (hL := ⟨fun _ _ h => h.2⟩) (by omega)
    exact fin.law ⟨la_num hL, s0⟩

theorem row_holds : Rows.LedgerBackSaid :=
  OpenClaim.holds_of_wide 4 Tryz.f4 rfl rfl rfl rfl rfl rfl rfl ⟨rfl, rfl, rfl, rfl, rfl⟩ rfl rfl rfl rfl rfl (by kernel_rfl) Tryz.func4 (by kernel_rfl)
    (of_decide_eq_true (by kernel_rfl)) (by unfold Func.isWrapper; first | (rw [if_pos (by decide +kernel)]; kernel_rfl) | (rw [if_neg (by decide +kernel)]; exact ⟨rfl, rfl⟩))
    (fun os started H enc _ => law_lifted os started H enc)

theorem back_holds : Rows.LedgerBackCardSaid :=
  Claim7.holds_tied_plain_at .later [] [.data, .data, .data, .sentinel, .sentinel] true Rows.ledgerBackCard.stood.harness true
    row_holds (fun _ h => by cases h) (by kernel_rfl) (fun _ h => by cases h) ledgerBack_row_tie rfl ⟨rfl, rfl⟩ (by kernel_rfl) rfl
    (fun f fn hf hfn => by
      obtain rfl : f = 4 := Option.some.inj ((show Tryz.prog.funcNamed Rows.ledgerBackRow.func = some 4 by kernel_rfl).symm.trans hf) |>.symm
      obtain rfl : fn = Tryz.f4 := (Option.some.inj (Tryz.func4.symm.trans hfn)).symm
      exact ⟨by kernel_rfl, fun j t ht => by
        rw [Tryz.params4] at ht
        have hm := Array.mem_of_getElem? ht
        have hall : ((Tryz.f4.params.toList).all fun u => !Tryz.prog.wantsStandIn u) = true := by kernel_rfl
        rw [Tryz.params4] at hall
        exact (show Tryz.prog.wantsStandIn t = false by simpa using List.all_eq_true.1 hall t (by simpa using hm))⟩)
    (by kernel_rfl)

end Go.Proofs.YtbkpfhhhbhaecaaGreatDoor
end

