/-
  What the laws of ledgers do themselves: residues, batches that fit, bounds; the reference's net; counts and causes; a new ledger.
-/
import Derived.Test.YtbkpfhhhbhaecaaGreatDoorLT8
import Derived.Test.YtbkpfhhhbhaecaaGreatDoorLT5

section
set_option linter.unusedVariables false
set_option linter.unusedSimpArgs false
namespace Go.Proofs.YtbkpfhhhbhaecaaGreatDoor
open Go.Vc


structure PushD where
  batch : Int
  mark : Int
  l : List LineD
  fit : Bool
instance : Gv PushD := Gv.via (β := Int × Int × List LineD × Bool) (fun x => (x.batch, x.mark, x.l, x.fit)) (fun y => ⟨y.1, y.2.1, y.2.2.1, y.2.2.2⟩) (fun _ => rfl)
abbrev PushD.cells (x : PushD) (p : Option Addr) (c : Nat) : List Value := [.int .i64 x.batch, .int .i64 x.mark, .slice p x.l.length c, .bool x.fit]
abbrev PushD.v (x : PushD) (p : Option Addr) (c : Nat) : Value := .agg #[.int .i64 x.batch, .int .i64 x.mark, .slice p x.l.length c, .bool x.fit]
theorem push_cells {M : List Nat} {w : World} {cs : List Value} {x : PushD} (h : Gv.rep M w cs x) : ∃ p c, cs = x.cells p c ∧ x.l.length ≤ c ∧ c ≤ maxLen ∧ I64 x.batch ∧ I64 x.mark ∧ Sl M w p x.l := by
  obtain ⟨_, _, rfl, ⟨rfl, h1⟩, _, _, rfl, ⟨rfl, h2⟩, _, _, rfl, ⟨p, c, rfl, g1, g2, g3⟩, h4⟩ := h
  exact ⟨p, c, by rw [h4]; rfl, g1, g2, h1, h2, g3⟩

def modP (n m : Int) : Int := if n.tmod m < 0 then n.tmod m + m else n.tmod m
theorem mod_bd {n m : Int} (h : 0 < m) : 0 ≤ modP n m ∧ modP n m < m := by
  have h1 := Int.tmod_lt_of_pos n h
  have h2 : -m < n.tmod m := by
    have := Int.tmod_lt_of_pos (-n) h
    rw [Int.neg_tmod] at this; omega
  unfold modP
  split <;> omega
def fitL (next nb mark nm : Int) (i : Nat) (x : LineD) : LineD :=
  ⟨next + i, nb, modP x.time (max (nm + 1) 1), x.row, x.n, if x.cause ≠ 2 then (if modP x.time (max (nm + 1) 1) ≤ mark then 1 else 0) else x.cause, x.why⟩
def fitLs (next nb mark nm : Int) (l : List LineD) : List LineD := l.mapIdx (fitL next nb mark nm)
def fitP (x : PushD) (last mark next : Int) : PushD :=
  if x.fit = true then ⟨w64 (w64 (last + 1) + modP x.batch 3), mark + modP x.mark 20, fitLs next (w64 (w64 (last + 1) + modP x.batch 3)) mark (mark + modP x.mark 20) x.l, true⟩ else x
theorem fitLs_len (next nb mark nm : Int) (l : List LineD) : (fitLs next nb mark nm l).length = l.length := by unfold fitLs; simp
theorem fitLs_row (next nb mark nm : Int) (l : List LineD) : ∀ x ∈ fitLs next nb mark nm l, ∃ y ∈ l, x.row = y.row := fun x hx => by
  unfold fitLs at hx
  obtain ⟨i, hi, rfl⟩ := List.getElem_of_mem hx
  rw [List.getElem_mapIdx]
  exact ⟨_, List.getElem_mem _, rfl⟩
theorem fitP_len (x : PushD) (last mark next : Int) : (fitP x last mark next).l.length = x.l.length := by
  unfold fitP
  split
  · exact fitLs_len _ _ _ _ _
  · rfl
theorem fitP_row (x : PushD) (last mark next : Int) : ∀ y ∈ (fitP x last mark next).l, ∃ z ∈ x.l, y.row = z.row := fun y hy => by
  unfold fitP at hy
  split at hy
  · exact fitLs_row _ _ _ _ _ y hy
  · exact ⟨y, hy, rfl⟩
def midL (next nb mark nm : Int) (l : List LineD) (i : Nat) : List LineD := (fitLs next nb mark nm l).take i ++ l.drop i
theorem midL_len (next nb mark nm : Int) (l : List LineD) {i : Nat} (h : i ≤ l.length) : (midL next nb mark nm l i).length = l.length := by
  unfold midL
  rw [List.length_append, List.length_take, List.length_drop, fitLs_len]; omega
theorem midL_at (next nb mark nm : Int) (l : List LineD) {i : Nat} (h : i < l.length) : (midL next nb mark nm l i)[i]? = some l[i] := by
  unfold midL
  rw [List.getElem?_append_right (by rw [List.length_take, fitLs_len]; omega), List.length_take, fitLs_len, show min i l.length = i by omega, Nat.sub_self, List.getElem?_drop, Nat.add_zero, List.getElem?_eq_getElem h]
theorem midL_step (next nb mark nm : Int) (l : List LineD) {i : Nat} (h : i < l.length) : (midL next nb mark nm l i).set i (fitL next nb mark nm i l[i]) = midL next nb mark nm l (i + 1) := by
  have hl : ((fitLs next nb mark nm l).take i).length = i := by rw [List.length_take, fitLs_len]; omega
  unfold midL
  rw [List.set_append_right _ _ (by omega), hl, Nat.sub_self, List.drop_eq_getElem_cons h, List.set_cons_zero, List.take_succ_eq_append_getElem (by rw [fitLs_len]; exact h), List.append_assoc]
  congr 1
  unfold fitLs
  rw [List.getElem_mapIdx]
  rfl

def shortL (l : List LineD) (n : Int) : Bool := (l.all fun x => shortB x.row 13) && decide ((l.length : Int) ≤ n)
def fewL (l : List PushD) (n : Int) : Bool := (l.all fun x => shortL x.l 12) && decide ((l.length : Int) ≤ n)

section
variable {Φ : PW} {q : LP} {st : LedD} {W w : World} {R S G : List Own} {p : Option Addr} {cap : Nat} {l : List LineD} {cs : List Value}

theorem mod_g {n m : Int} (h : 0 < m) (hm : m ≤ 4611686018427387904) : Gives Tryz.prog F.erratalaw41_mod #[.int .i64 n, .int .i64 m] (.int .i64 (modP n m)) := by
  have hb := mod_bd (n := n) h
  refine gives_of (Berratalaw41_mod_run n m) fun W R Φ _ => ⟨fun e => by omega, Br.intro (fun h1 => ⟨?_, fun w G c => ⟨?_, c.left⟩⟩) (fun h1 => fun w G c => ⟨?_, c.left⟩)⟩
  · have e : n.tmod m + m = modP n m := by unfold modP; rw [if_pos (of_decide_eq_true h1)]
    rw [e]; unfold I64; omega
  · unfold modP; rw [if_pos (of_decide_eq_true h1)]
  · unfold modP; rw [if_neg (of_decide_eq_false h1)]

theorem l_get {g n : Nat} (cx : Ctx W w (bufL (some ⟨g, 0, none⟩) n cap cs :: S) (fun M w => Φ M w ∧ Elems M w cs l)) {i k : Nat} {y : LineD} (hy : l[i]? = some y) {v : Value} (hv : ∀ p c, (y.cells p c)[k]? = some v) : w.cell? ⟨g, i * 7 + k, none⟩ = some v := by
  obtain ⟨hi, rfl⟩ := List.getElem?_eq_some_iff.1 hy
  obtain ⟨p, c, hp, _⟩ := lrow cx.phi.2 hi
  have hk := hv p c
  obtain ⟨hkl, hkv⟩ := List.getElem?_eq_some_iff.1 hk
  have := l_at cx hp k hkl
  rw [this, hkv]
theorem l_cellI [Stable Φ] {w' : World} {g n : Nat} (cx : Ctx W w (bufL (some ⟨g, 0, none⟩) n cap cs :: S) (fun M w => Φ M w ∧ Elems M w cs l)) {i : Nat} (x : LineD) {y : LineD} (hy : l[i]? = some y) {k : Nat} {v : Value}
    (hk : k < 7) (hr : x.row = y.row) (hx : ∀ p c, (y.cells p c).set k v = x.cells p c) (hin : y.In → x.In) (e : w' = w.setCell ⟨g, i * 7 + k, none⟩ v) :
    ∃ cs', Ctx W w' (bufL (some ⟨g, 0, none⟩) n cap cs' :: S) (fun M w => Φ M w ∧ Elems M w cs' (l.set i x)) := by
  obtain ⟨hi, rfl⟩ := List.getElem?_eq_some_iff.1 hy
  obtain ⟨cs', _, h⟩ := l_cell cx hi x hk hr hx hin e
  exact ⟨cs', h⟩
theorem l_canI {g n : Nat} (cx : Ctx W w (bufL (some ⟨g, 0, none⟩) n cap cs :: S) (fun M w => Φ M w ∧ Elems M w cs l)) {i k : Nat} (hi : i < l.length) (hk : k < 7) : CanWrite w g (i * 7 + k) 1 := by
  have := elems_len7 cx.phi.2
  exact l_can cx (by omega)

set_option maxHeartbeats 4000000 in
theorem fitted_to [Stable Φ] {x : PushD} {last mark next : Int} [hΦ : Has Φ (fun M w => Sl M w p x.l)] (hc1 : x.l.length ≤ cap) (hc2 : cap ≤ maxLen) (hlen : x.l.length ≤ 100000) (hm : -1 ≤ mark ∧ mark ≤ 1099511627776) (hn : 0 ≤ next ∧ next ≤ 10000000) (c : Ctx W w (R ++ G) Φ) {K : Int → Int → Option Addr → Nat → Nat → Bool → List Own → PW → Prop}
    (h : ∀ p' c', (fitP x last mark next).l.length ≤ c' → c' ≤ maxLen → There p' (fitP x last mark next).l.length → Stable (fun M w => Φ M w ∧ Sl M w p' (fitP x last mark next).l) → K (fitP x last mark next).batch (fitP x last mark next).mark p' (fitP x last mark next).l.length c' (fitP x last mark next).fit R (fun M w => Φ M w ∧ Sl M w p' (fitP x last mark next).l)) :
    Calls Tryz.prog F.erratalaw41_fitted #[x.v p cap, .int .i64 last, .int .i64 mark, .int .i64 next] w fun e w' => ∃ a b p' k c' f, e = .returned (.agg #[.int .i64 a, .int .i64 b, .slice p' k c', .bool f]) ∧ ∃ R' Φ', Stable Φ' ∧ Ctx W w' (R' ++ G) Φ' ∧ K a b p' k c' f R' Φ' := by
  refine (Berratalaw41_fitted_run x.batch x.mark p x.l.length cap x.fit last mark next (R := R ++ G) (J := fun v w' => ∃ a b p' k c' f, v = .agg #[.int .i64 a, .int .i64 b, .slice p' k c', .bool f] ∧ ∃ R' Φ', Stable Φ' ∧ Ctx W w' (R' ++ G) Φ' ∧ K a b p' k c' f R' Φ') c ?_).mono fun e w' ⟨v, he, a, b, p', k, c', f, hv, rest⟩ => ⟨a, b, p', k, c', f, by rw [he, hv], rest⟩
  have hth := (hΦ.go _ _ c.phi).there
  clear c
  refine fun _ _ => Br.intro (fun hf => fun w G2 cx => ?_) (fun hf => ?_)
  · have hf : x.fit = false := by simpa using hf
    have e : fitP x last mark next = x := by unfold fitP; rw [if_neg (by rw [hf]; simp)]
    rw [e] at h
    exact ⟨_, _, _, _, _, _, rfl, R, _, inferInstance, cx.left.weak fun M w h => ⟨h, hΦ.go M w h⟩, h p cap hc1 hc2 hth inferInstance⟩
  have hf : x.fit = true := by simpa using hf
  have m1 := mod_bd (n := x.batch) (m := 3) (by omega)
  have m2 := mod_bd (n := x.mark) (m := 20) (by omega)
  obtain ⟨nb, hnb⟩ : ∃ nb, w64 (w64 (last + 1) + modP x.batch 3) = nb := ⟨_, rfl⟩
  obtain ⟨nm, hnm⟩ : ∃ nm, mark + modP x.mark 20 = nm := ⟨_, rfl⟩
  have hnb64 : I64 nb := by rw [← hnb]; exact w64_in _
  have e : fitP x last mark next = ⟨nb, nm, fitLs next nb mark nm x.l, true⟩ := by unfold fitP; rw [if_pos hf, hnb, hnm]
  rw [e] at h
  simp only at h
  refine fun w G2 cx => (mod_g (n := x.batch) (m := 3) (by omega) (by omega)).use cx fun w c => ⟨_, rfl, R ++ G, Φ, inferInstance, c, ?_⟩
  clear cx c
  refine fun w G2 cx => (mod_g (n := x.mark) (m := 20) (by omega) (by omega)).use cx fun w c => ⟨_, rfl, R ++ G, Φ, inferInstance, c, ?_⟩
  clear cx c
  rw [show IntKind.i64.wrap (IntKind.i64.wrap (last + 1) + modP x.batch 3) = nb from hnb, hnm]
  refine ⟨by unfold I64; omega, fun kb w G2 cx => ?_⟩
  have cx1 : Ctx W w (bufL (some ⟨kb, 0, none⟩) 0 0 [] :: ((R ++ G) ++ G2)) Φ := cx.toBuf 0 0 7 rfl (by simp) (by simp [maxLen])
  obtain ⟨p1, c1, w1, news, hrun, cx2⟩ := Ctx.appAny (P := Tryz.prog) (ts := 31) (ty := 31) (kb := #[false, false]) (bytes := 72) (c2 := cap) (l := x.l) (q := p) cx1 (by kernel_rfl) line_one hΦ.go (by omega) (by omega)
  rw [Nat.zero_add] at hrun cx2
  refine ⟨p1, x.l.length, c1, w1, hrun, bufL p1 x.l.length c1 news :: (R ++ G), (fun M w => Φ M w ∧ Elems M w news x.l), inferInstance, cx2, ?_⟩
  have hel := cx2.phi.2
  have hpt : 0 < x.l.length → ∃ g, p1 = some ⟨g, 0, none⟩ := fun h0 => l_ptr cx2 (by show 0 < news.length; rw [elems_len7 hel]; omega)
  clear cx cx1 cx2 hel hrun
  have hmid0 : midL next nb mark nm x.l 0 = x.l := by unfold midL; simp
  refine exI_mk (fun iI R' Φ' k => ∃ (i : Nat) (cs : List Value), iI = i ∧ i ≤ x.l.length ∧ R' = bufL p1 x.l.length c1 cs :: (R ++ G) ∧ Φ' = (fun M w => Φ M w ∧ Elems M w cs (midL next nb mark nm x.l i)) ∧ k = x.l.length - i) ⟨⟨_, _, _, instStableAnd Φ (fun M w => Elems M w news x.l), fun w G cx => cx, 0, news, rfl, Nat.zero_le _, rfl, by rw [hmid0], rfl⟩, ?_⟩
  rintro iI R1 Φ1 k _ ⟨i, cs, rfl, hi, rfl, rfl, rfl⟩
  have hml := midL_len next nb mark nm x.l hi
  refine Br.intro (fun hlt => ?_) (fun hge => fun w G3 cx => ?_)
  · have hlt : i < x.l.length := by have := of_decide_eq_true hlt; omega
    obtain ⟨g, rfl⟩ := hpt (by omega)
    have hat := midL_at next nb mark nm x.l hlt
    have hstep := midL_step next nb mark nm x.l hlt
    obtain ⟨B, hB⟩ : ∃ B, midL next nb mark nm x.l i = B := ⟨_, rfl⟩
    rw [hB] at hml hat hstep ⊢
    have hiB : i < B.length := by omega
    have set2 : ∀ (a b : LineD), (B.set i a).set i b = B.set i b := fun a b => List.set_set ..
    have at2 : ∀ a : LineD, (B.set i a)[i]? = some a := fun a => List.getElem?_set_self hiB
    have ln2 : ∀ a : LineD, i < (B.set i a).length := fun a => by rw [List.length_set]; exact hiB
    have m3 := mod_bd (n := x.l[i].time) (m := max (nm + 1) 1) (by omega)
    obtain ⟨y, hy⟩ : ∃ y, x.l[i] = y := ⟨_, rfl⟩
    rw [hy] at hat hstep m3
    obtain ⟨t, ht⟩ : ∃ t, modP y.time (max (nm + 1) 1) = t := ⟨_, rfl⟩
    rw [ht] at m3
    obtain ⟨x1, hx1⟩ : ∃ x1 : LineD, x1 = ⟨next + i, y.batch, y.time, y.row, y.n, y.cause, y.why⟩ := ⟨_, rfl⟩
    obtain ⟨x2, hx2⟩ : ∃ x2 : LineD, x2 = ⟨next + i, nb, y.time, y.row, y.n, y.cause, y.why⟩ := ⟨_, rfl⟩
    obtain ⟨x3, hx3⟩ : ∃ x3 : LineD, x3 = ⟨next + i, nb, t, y.row, y.n, y.cause, y.why⟩ := ⟨_, rfl⟩
    have st0 : ∀ (c : List Value) (l : List LineD), Stable (fun M w => Φ M w ∧ Elems M w c l) := fun c l => instStableAnd Φ (fun M w => Elems M w c l)
    have off : ∀ k : Nat, 0 + (i : Int).toNat * 7 + k = i * 7 + k := fun k => by rw [Int.toNat_natCast]; omega
    have off0 : 0 + (i : Int).toNat * 7 = i * 7 + 0 := by rw [Int.toNat_natCast]; omega
    refine ⟨by unfold I64; omega, by omega, ptrK_intro g 0 rfl fun w G3 cx => ⟨by rw [off0]; exact l_canI cx hiB (by omega), fun w2 hw2 => ?_⟩⟩
    obtain ⟨csa, cxa⟩ := l_cellI (w' := w2) cx x1 hat (k := 0) (v := .int .i64 (next + i)) (by omega) (by rw [hx1]) (fun p c => by rw [hx1]; rfl) (fun hin => by rw [hx1]; exact ⟨by show I64 (next + i); unfold I64; omega, hin.batch, hin.time, hin.n, hin.cause, hin.why⟩) (by rw [hw2, off0])
    refine ⟨bufL (some ⟨g, 0, none⟩) x.l.length c1 csa :: (R ++ G), _, st0 csa (B.set i x1), cxa, ?_⟩
    clear cx cxa
    refine ⟨by omega, ptrK_intro g 0 rfl fun w G3 cx => ⟨by rw [off 1]; exact l_canI cx (ln2 x1) (by omega), fun w2 hw2 => ?_⟩⟩
    obtain ⟨csb, cxb⟩ := l_cellI (w' := w2) cx x2 (at2 x1) (k := 1) (v := .int .i64 nb) (by omega) (by rw [hx1, hx2]) (fun p c => by rw [hx1, hx2]; rfl) (fun hin => by rw [hx1] at hin; rw [hx2]; exact ⟨hin.no, hnb64, hin.time, hin.n, hin.cause, hin.why⟩) (by rw [hw2, off 1])
    rw [set2] at cxb
    refine ⟨bufL (some ⟨g, 0, none⟩) x.l.length c1 csb :: (R ++ G), _, st0 csb (B.set i x2), cxb, ?_⟩
    clear cx cxb
    refine ⟨bufL (some ⟨g, 0, none⟩) x.l.length c1 csb :: (R ++ G), _, st0 csb (B.set i x2), fun w G cx => cx, by omega, ptrK_intro g 0 rfl ⟨by unfold I64; omega, y.time, fun w G3 cx => ⟨y.time, by rw [off 2]; exact l_get cx (at2 x2) fun p c => by rw [hx2]; rfl, rfl⟩, fun w G3 cx => ?_⟩⟩
    refine (mod_g (n := y.time) (m := max (nm + 1) 1) (by omega) (by omega)).use cx fun w c => ⟨t, by rw [ht], bufL (some ⟨g, 0, none⟩) x.l.length c1 csb :: (R ++ G), _, st0 csb (B.set i x2), c, fun w G cx => cx, by omega, ptrK_intro g 0 rfl fun w G3 cx => ⟨by rw [off 2]; exact l_canI cx (ln2 x2) (by omega), fun w2 hw2 => ?_⟩⟩
    obtain ⟨csc, cxc⟩ := l_cellI (w' := w2) cx x3 (at2 x2) (k := 2) (v := .int .i64 t) (by omega) (by rw [hx2, hx3]) (fun p c => by rw [hx2, hx3]; rfl) (fun hin => by rw [hx2] at hin; rw [hx3]; exact ⟨hin.no, hin.batch, by show I64 t; unfold I64; omega, hin.n, hin.cause, hin.why⟩) (by rw [hw2, off 2])
    rw [set2] at cxc
    refine ⟨bufL (some ⟨g, 0, none⟩) x.l.length c1 csc :: (R ++ G), _, st0 csc (B.set i x3), cxc, ?_⟩
    clear cx cxc
    have done : ∀ (z : LineD) (cz : List Value), z = fitL next nb mark nm i y → ∃ (i2 : Nat) (cs : List Value), (i : Int) + 1 = i2 ∧ i2 ≤ x.l.length ∧ (bufL (some ⟨g, 0, none⟩) x.l.length c1 cz :: (R ++ G)) = bufL (some ⟨g, 0, none⟩) x.l.length c1 cs :: (R ++ G) ∧ (fun M w => Φ M w ∧ Elems M w cz (B.set i z)) = (fun M w => Φ M w ∧ Elems M w cs (midL next nb mark nm x.l i2)) ∧ x.l.length - (i + 1) = x.l.length - i2 := fun z cz hz => ⟨i + 1, cz, by omega, by omega, rfl, by rw [← hstep, hz], rfl⟩
    refine ⟨by omega, ptrK_intro g 0 rfl fun w G3 cx => ⟨y.cause, by rw [off 5]; exact l_get cx (at2 x3) fun p c => by rw [hx3]; rfl, ?_⟩⟩
    clear cx
    refine Br.intro (fun h4 => ?_) (fun h4 => ⟨by unfold I64; omega, _, _, x.l.length - (i + 1), st0 csc (B.set i x3), fun w G cx => cx, done x3 csc ?_, by omega⟩)
    · have h4 := of_decide_eq_true h4
      obtain ⟨x4, hx4⟩ : ∃ x4 : LineD, x4 = ⟨next + i, nb, t, y.row, y.n, 0, y.why⟩ := ⟨_, rfl⟩
      refine ⟨by omega, ptrK_intro g 0 rfl fun w G3 cx => ⟨by rw [off 5]; exact l_canI cx (ln2 x3) (by omega), fun w2 hw2 => ?_⟩⟩
      obtain ⟨csd, cxd⟩ := l_cellI (w' := w2) cx x4 (at2 x3) (k := 5) (v := .int .i64 0) (by omega) (by rw [hx3, hx4]) (fun p c => by rw [hx3, hx4]; rfl) (fun hin => by rw [hx3] at hin; rw [hx4]; exact ⟨hin.no, hin.batch, hin.time, hin.n, by show I64 0; unfold I64; omega, hin.why⟩) (by rw [hw2, off 5])
      rw [set2] at cxd
      refine ⟨bufL (some ⟨g, 0, none⟩) x.l.length c1 csd :: (R ++ G), _, st0 csd (B.set i x4), cxd, ?_⟩
      clear cx cxd
      refine ⟨by omega, ptrK_intro g 0 rfl fun w G3 cx => ⟨t, by rw [off 2]; exact l_get cx (at2 x4) fun p c => by rw [hx4]; rfl, ?_⟩⟩
      clear cx
      refine Br.intro (fun h5 => ?_) (fun h5 => ⟨by unfold I64; omega, _, _, x.l.length - (i + 1), st0 csd (B.set i x4), fun w G cx => cx, done x4 csd ?_, by omega⟩)
      · have h5 := of_decide_eq_true h5
        obtain ⟨x5, hx5⟩ : ∃ x5 : LineD, x5 = ⟨next + i, nb, t, y.row, y.n, 1, y.why⟩ := ⟨_, rfl⟩
        refine ⟨by omega, ptrK_intro g 0 rfl fun w G3 cx => ⟨by rw [off 5]; exact l_canI cx (ln2 x4) (by omega), fun w2 hw2 => ?_⟩⟩
        obtain ⟨cse, cxe⟩ := l_cellI (w' := w2) cx x5 (at2 x4) (k := 5) (v := .int .i64 1) (by omega) (by rw [hx4, hx5]) (fun p c => by rw [hx4, hx5]; rfl) (fun hin => by rw [hx4] at hin; rw [hx5]; exact ⟨hin.no, hin.batch, hin.time, hin.n, by show I64 1; unfold I64; omega, hin.why⟩) (by rw [hw2, off 5])
        rw [set2] at cxe
        refine ⟨bufL (some ⟨g, 0, none⟩) x.l.length c1 cse :: (R ++ G), _, st0 cse (B.set i x5), cxe, by unfold I64; omega, _, _, x.l.length - (i + 1), st0 cse (B.set i x5), fun w G cx => cx, done x5 cse ?_, by omega⟩
        rw [hx5]
        unfold fitL
        rw [ht, if_pos h4, if_pos h5]
      · rw [hx4]
        unfold fitL
        rw [ht, if_pos h4, if_neg (of_decide_eq_false h5)]
    · rw [hx3]
      unfold fitL
      rw [ht, if_neg (of_decide_eq_false h4)]
  · have hge : i = x.l.length := by have := of_decide_eq_false hge; omega
    subst hge
    have hmE : midL next nb mark nm x.l x.l.length = fitLs next nb mark nm x.l := by
      unfold midL
      rw [List.drop_length, List.append_nil, ← fitLs_len next nb mark nm x.l, List.take_length]
    rw [hmE] at cx
    have cx := cx.left
    obtain ⟨_, k1, k2⟩ := cx.bufLen 0 rfl
    obtain ⟨cx3, hs, _⟩ := Ctx.freeze (α := LineD) cx cx.phi.2
    have hl := fitLs_len next nb mark nm x.l
    refine ⟨nb, nm, p1, x.l.length, c1, x.fit, rfl, R, (fun M w => Φ M w ∧ Sl M w p1 (fitLs next nb mark nm x.l)), inferInstance, (cx3.add (Ψ := fun M w => Sl M w p1 (fitLs next nb mark nm x.l)) hs).weak fun M w h => ⟨h.1.1, h.2⟩, ?_⟩
    rw [hl] at h
    rw [hf]
    exact h p1 c1 k1 k2 (by have := hs.there; rw [hl] at this; exact this) inferInstance
end
end Go.Proofs.YtbkpfhhhbhaecaaGreatDoor
end

section
set_option linter.unusedVariables false
set_option linter.unusedSimpArgs false
namespace Go.Proofs.YtbkpfhhhbhaecaaGreatDoor
open Go.Vc


section
variable {Φ : PW} {q : LP} {st : LedD} {W w : World} {R S G : List Own} {p : Option Addr} {cap : Nat}

theorem Short41_in [Stable Φ] {l : List LineD} {cs : List Value} {n : Int} (src : Src [] Φ p l cs) (hlen : l.length ≤ maxLen) : GivesIn Φ Tryz.prog F.errataref41_Short #[.slice p l.length cap, .int .i64 n] (.bool (shortL l n)) := by
  refine ⟨fun W0 w0 S0 c0 => GivesIn.go (gives_in (Berrataref41_Short_run p l.length cap n) fun W R => ?_) W0 w0 S0 c0⟩
  have hc : Rows7 cs l := rows7 (src.el _ _ c0.phi)
  clear c0
  refine exI_mk (fun n R' Φ' k => ∃ i : Nat, n = i ∧ i ≤ l.length ∧ R' = R ∧ Φ' = Φ ∧ k = l.length - i ∧ (l.take i).all (fun x => shortB x.row 13) = true) ⟨⟨R, Φ, _, inferInstance, fun w F c => c, 0, rfl, Nat.zero_le _, rfl, rfl, rfl, rfl⟩, ?_⟩
  rintro n1 R1 Φ1 k _ ⟨i, rfl, hi, rfl, rfl, rfl, hs⟩
  refine Br.intro (fun hlt => ?_) (fun hge => fun w G cx => ⟨?_, cx.left⟩)
  · have hlt : i < l.length := by have := of_decide_eq_true hlt; omega
    obtain ⟨b, o, hp⟩ := src.ptr (by omega)
    obtain ⟨r, rc, he, h1, h2, _⟩ := hc i hlt
    have hh : Has Φ1 (fun M w => Sl M w r l[i].row) := ⟨fun M w h => src_sl src hlt he h⟩
    refine ⟨by omega, ptrK_intro b o hp fun w G cx => ⟨r, l[i].row.length, rc, ?_, fun w G cx => (Short_in (r := l[i].row) (by omega)).toB cx ?_⟩⟩
    · have := src_at (G := R1 ++ G) src hp cx he 3 (by simp)
      rw [Int.toNat_natCast]
      exact this
    clear cx
    refine Br.intro (fun h => fun w G cx => ⟨?_, cx.left⟩) (fun h => ⟨by unfold I64; unfold maxLen at hlen; omega, R1, Φ1, l.length - (i + 1), inferInstance, fun w G cx => cx, ⟨i + 1, rfl, hlt, rfl, rfl, rfl, ?_⟩, by omega⟩)
    · have h : shortB l[i].row 13 = false := by simpa using h
      unfold shortL
      rw [List.all_eq_false.2 ⟨l[i], List.getElem_mem _, by rw [h]; simp⟩]; rfl
    · have h : shortB l[i].row 13 = true := by simpa using h
      rw [List.take_succ_eq_append_getElem hlt, List.all_append, hs]
      simp [h]
  · have hge : i = l.length := by have := of_decide_eq_false hge; omega
    subst hge
    rw [List.take_length] at hs
    unfold shortL
    rw [hs, Bool.true_and]

theorem Short41_sl [Stable Φ] {l : List LineD} {n : Int} [hΦ : Has Φ (fun M w => Sl M w p l)] (hlen : l.length ≤ maxLen) : GivesIn Φ Tryz.prog F.errataref41_Short #[.slice p l.length cap, .int .i64 n] (.bool (shortL l n)) :=
  .there (fun M w h => (hΦ.go M w h).there) fun hth => ⟨fun W w S c => by
    obtain ⟨cs, c1⟩ := srcOf c (hΦ.go _ _ c.phi)
    exact (Short41_in (Φ := fun M w => Φ M w ∧ SrcF p l cs M w) (src_fact (Φ := fun M w => Φ M w ∧ SrcF p l cs M w) hth (fun M w h => h.2)) hlen).use c1 fun w' c => ⟨rfl, c.fst⟩⟩

theorem pin_push {M : List Nat} {w : World} {b o : Nat} {cs : List (List Value)} {l : List PushD} (h : Pin b o cs l M w) {j : Nat} (hj : j < l.length) : ∃ p c, cs.getD j [] = l[j].cells p c ∧ l[j].l.length ≤ c ∧ c ≤ maxLen ∧ I64 l[j].batch ∧ I64 l[j].mark := by
  obtain ⟨_, h1, h2⟩ := h j hj
  obtain ⟨p, c, e, g1, g2, g3, g4, _⟩ := push_cells h2
  exact ⟨p, c, e, g1, g2, g3, g4⟩
theorem pinp_sl {M : List Nat} {w : World} {b o : Nat} {cs : List (List Value)} {l : List PushD} (h : Pin b o cs l M w) {j : Nat} (hj : j < l.length) {p : Option Addr} {c : Nat} (e : cs.getD j [] = l[j].cells p c) : Sl M w p l[j].l := by
  have := (h j hj).2.2
  rw [e] at this
  obtain ⟨p', c', e', _, _, _, _, h1⟩ := push_cells this
  simp only [PushD.cells, List.cons.injEq, Value.slice.injEq] at e'
  rw [e'.2.2.1.1]
  exact h1
theorem pinp_rowAt {M : List Nat} {w : World} {b o : Nat} {cs : List (List Value)} {l : List PushD} (h : Pin b o cs l M w) {j : Nat} (hj : j < l.length) {p : Option Addr} {c : Nat} (e : cs.getD j [] = l[j].cells p c) : RowAt w b (o + j * 4) (l[j].cells p c) := by
  have := (h j hj).2.1
  rw [e] at this
  exact this

theorem Few41_in [Stable Φ] {l : List PushD} {n : Int} {g o : Nat} {cs : List (List Value)} (hp : 0 < l.length → p = some ⟨g, o, none⟩) (hP : ∀ M w, Φ M w → Pin g o cs l M w) (hlen : l.length ≤ maxLen) : GivesIn Φ Tryz.prog F.erratalaw41_few #[.slice p l.length cap, .int .i64 n] (.bool (fewL l n)) := by
  refine ⟨fun W0 w0 S0 c0 => GivesIn.go (gives_in (Berratalaw41_few_run p l.length cap n) fun W R => ?_) W0 w0 S0 c0⟩
  have hc : ∀ j (hj : j < l.length), ∃ p c, cs.getD j [] = l[j].cells p c ∧ l[j].l.length ≤ c ∧ c ≤ maxLen ∧ I64 l[j].batch ∧ I64 l[j].mark := fun j hj => pin_push (hP _ _ c0.phi) hj
  clear c0
  refine exI_mk (fun n R' Φ' k => ∃ i : Nat, n = i ∧ i ≤ l.length ∧ R' = R ∧ Φ' = Φ ∧ k = l.length - i ∧ (l.take i).all (fun x => shortL x.l 12) = true) ⟨⟨R, Φ, _, inferInstance, fun w F c => c, 0, rfl, Nat.zero_le _, rfl, rfl, rfl, rfl⟩, ?_⟩
  rintro n1 R1 Φ1 k _ ⟨i, rfl, hi, rfl, rfl, rfl, hs⟩
  refine Br.intro (fun hlt => ?_) (fun hge => fun w G cx => ⟨?_, cx.left⟩)
  · have hlt : i < l.length := by have := of_decide_eq_true hlt; omega
    obtain ⟨r, rc, he, h1, h2, _⟩ := hc i hlt
    have hh : Has Φ1 (fun M w => Sl M w r l[i].l) := ⟨fun M w h => pinp_sl (hP M w h) hlt he⟩
    refine ⟨by omega, ptrK_intro g o (hp (by omega)) fun w G cx => ⟨r, l[i].l.length, rc, ?_, fun w G cx => (Short41_sl (l := l[i].l) (n := 12) (by omega)).toB cx ?_⟩⟩
    · have := pinp_rowAt (hP _ _ cx.phi) hlt he 2 (by simp)
      rw [Int.toNat_natCast]
      exact this
    clear cx
    refine Br.intro (fun h => fun w G cx => ⟨?_, cx.left⟩) (fun h => ⟨by unfold I64; unfold maxLen at hlen; omega, R1, Φ1, l.length - (i + 1), inferInstance, fun w G cx => cx, ⟨i + 1, rfl, hlt, rfl, rfl, rfl, ?_⟩, by omega⟩)
    · have h : shortL l[i].l 12 = false := by simpa using h
      unfold fewL
      rw [List.all_eq_false.2 ⟨l[i], List.getElem_mem _, by rw [h]; simp⟩]; rfl
    · have h : shortL l[i].l 12 = true := by simpa using h
      rw [List.take_succ_eq_append_getElem hlt, List.all_append, hs]
      simp [h]
  · have hge : i = l.length := by have := of_decide_eq_false hge; omega
    subst hge
    rw [List.take_length] at hs
    unfold fewL
    rw [hs, Bool.true_and]

set_option maxHeartbeats 1000000 in
theorem Net41_sl [Stable Φ] {l : List LineD} [hΦ : Has Φ (fun M w => Sl M w p l)] (hlen : l.length ≤ 400000) (hrow : ∀ x ∈ l, x.row.length ≤ 1000000) : GivesSl Φ Tryz.prog F.errataref41_Net #[.slice p l.length cap] (netP l) id := by
  refine .there (fun M w h => (hΦ.go M w h).there) fun hth => ⟨fun W0 w0 S0 c0 => ?_⟩
  obtain ⟨cs, c1⟩ := srcOf c0 (hΦ.go _ _ c0.phi)
  have src : Src [] (fun M w => Φ M w ∧ SrcF p l cs M w) p l cs := src_fact hth (fun M w h => h.2)
  have hc : Rows7 cs l := rows7 (src.el _ _ c1.phi)
  have main : GivesSl (fun M w => Φ M w ∧ SrcF p l cs M w) Tryz.prog F.errataref41_Net #[.slice p l.length cap] (netP l) id := by
    obtain ⟨Ψ, hΨ⟩ : ∃ Ψ : PW, (fun M w => Φ M w ∧ SrcF p l cs M w) = Ψ := ⟨_, rfl⟩
    have hst : Stable Ψ := by rw [← hΨ]; infer_instance
    rw [hΨ] at src ⊢
    refine gives_sl (Berrataref41_Net_run p l.length cap) fun W R => ?_
    refine exI_mk (fun sp sn sc iI R' Φ' k => ∃ (i : Nat) (ds : List Value), iI = i ∧ i ≤ l.length ∧ sn = ((l.take i).map LineD.d).length ∧ R' = .buf sp sn sc ds 73 3 :: R ∧ Φ' = (fun M w => Ψ M w ∧ Elems M w ds ((l.take i).map LineD.d)) ∧ k = l.length - i)
      ⟨⟨.buf none 0 0 [] 73 3 :: R, fun M w => Ψ M w ∧ Elems M w [] ((l.take 0).map LineD.d), _, inferInstance, fun w G cx => (cx.weak fun M w h => ⟨h, Elems.nil⟩).nobuf 73 3, 0, [], rfl, Nat.zero_le _, rfl, rfl, rfl, rfl⟩, ?_⟩
    rintro sp _ sc iI R1 Φ1 k _ ⟨i, ds, rfl, hi, rfl, rfl, rfl, rfl⟩
    have hln : ((l.take i).map LineD.d).length = i := by simp; omega
    refine Br.intro (fun hlt => ?_) (fun hge => fun w G cx => ?_)
    · have hlt : i < l.length := by have := of_decide_eq_true hlt; omega
      obtain ⟨b, o, hp⟩ := src.ptr (by omega)
      obtain ⟨r, rc, he, h1, h2, h3⟩ := hc i hlt
      have rd : ∀ {S : List Own} {w : World} {k : Nat} {v : Value}, (l[i].cells r rc)[k]? = some v → Ctx W w S (fun M w => Ψ M w ∧ Elems M w ds ((l.take i).map LineD.d)) → w.cell? ⟨b, o + (i : Int).toNat * 7 + k, none⟩ = some v := fun {S w k v} hv cx => by
        obtain ⟨hk, hv⟩ := List.getElem?_eq_some_iff.1 hv
        rw [Int.toNat_natCast]
        have := src_at (G := S) src hp cx.fst he k hk
        rw [this, hv]
      refine ⟨_, _, inferInstance, fun w G cx => cx, by omega, ptrK_intro b o hp ⟨by omega, ptrK_intro b o hp ⟨by omega, ptrK_intro b o hp ⟨l[i].time, fun w G cx => ⟨_, rd rfl cx, rfl⟩, r, l[i].row.length, rc, fun w G cx => ⟨_, _, _, rd rfl cx, rfl⟩, l[i].n, fun w G cx => ⟨_, rd rfl cx, rfl⟩, fun kb => ⟨fun w G cx => Ctx.drop1 cx, fun w G cx => ?_⟩⟩⟩⟩⟩
      obtain ⟨p', c', w', hrun, cx'⟩ := pushLD (x := l[i]) (PS := Ψ) (fun M w h => src_sl src hlt he h) h1 h2 h3 (by omega) cx
      have htk : (l.take (i + 1)).map LineD.d = (l.take i).map LineD.d ++ [l[i].d] := by rw [List.take_succ_eq_append_getElem hlt, List.map_append]; rfl
      rw [← htk] at hrun cx'
      have hst3 : Stable (fun M w => Ψ M w ∧ Elems M w (ds ++ l[i].d.cells r rc) ((l.take (i + 1)).map LineD.d)) := inferInstance
      exact ⟨p', _, c', w', hrun, _, _, hst3, cx', by unfold I64; omega, _, _, l.length - (i + 1), hst3, fun w G cx => cx, ⟨i + 1, _, by omega, hlt, rfl, rfl, rfl, rfl⟩, by omega⟩
    · have hi : i = l.length := by have := of_decide_eq_false hge; omega
      subst hi
      rw [List.take_length] at cx ⊢
      obtain ⟨cx3, hs, _, k1, k2⟩ := Ctx.freeze (α := DeltaD) cx.fst cx.phi.2
      have hst4 : Stable (fun M w => Ψ M w ∧ Sl M w sp (l.map LineD.d)) := inferInstance
      refine (Cons28_sl (Φ := fun M w => Ψ M w ∧ Sl M w sp (l.map LineD.d)) sp sc (l.map LineD.d) (fun M w h => h.2) k1 k2 (by simp; omega) (fun x hx => ?_)).use (cx3.add hs) fun p3 c3 w h1 h2 cx => ⟨p3, _, c3, rfl, R, fun M w => Ψ M w ∧ Sl M w p3 (netP l), inferInstance, cx.weak fun M w h => ⟨h.1.1, h.2⟩, fun w G cx => ⟨p3, c3, rfl, h1, h2, cx.left⟩⟩
      obtain ⟨y, hy, rfl⟩ := List.mem_map.1 hx
      exact hrow y hy
  exact main.use c1 fun p' c' w' h1 h2 c => ⟨p', c', rfl, h1, h2, c.weak fun M w h => ⟨h.1.1, h.2⟩⟩

theorem Count_q [Stable Φ] {t : Int} {r : List ValD} [hT : Has Φ TabI] [hR : Has Φ (fun M w => Sl M w p r)] (hq : LedQ q st) (hlen : r.length ≤ 1000000) (htx : ∀ v ∈ r, v.text.size ≤ 10000) :
    GivesQ (LedO q st) Φ Tryz.prog F.ledger_Ledger_Count #[led q, .int .i64 t, .slice p r.length cap] (.int .i64 (cntL st.lines (t, rowB r))) := by
  refine gives_q (Bledger_Ledger_Count_run q.lb 0 t p r.length cap) fun W R => ⟨LedO q st ++ R, Φ, inferInstance, fun w G cx => cx, some q.mb, fun w G cx => ⟨some q.mb, led_cell (i := 2) cx rfl, rfl⟩, fun w G cx => ?_⟩
  refine (RowBytes_in p cap r hT.go hR.go hlen htx).toS cx ⟨fun w G cx => cx, getM q.es (t, rowB r), fun w G cx => ⟨_, fun w2 hw2 => run_lookupM keyTy (by rw [hw2]; exact led_map cx) (t, rowB r), rfl⟩, fun w G cx => ⟨?_, cx.left⟩⟩
  rw [hq.cnt]

theorem Causes_to [Stable Φ] (cx : Ctx W w ((LedO q st ++ R) ++ G) Φ) {K : Int → Int → Int → List Own → PW → Prop} (hk : K (caus st.lines 0) (caus st.lines 1) (caus st.lines 2) (LedO q st ++ R) Φ) :
    Calls Tryz.prog F.ledger_Ledger_Causes #[led q] w fun e w' => ∃ a b c, e = .returned (.tuple #[.int .i64 a, .int .i64 b, .int .i64 c]) ∧ ∃ R' Φ', Stable Φ' ∧ Ctx W w' (R' ++ G) Φ' ∧ K a b c R' Φ' := by
  refine (Bledger_Ledger_Causes_run q.lb 0 (R := (LedO q st ++ R) ++ G) (J := fun v w' => v = .tuple #[.int .i64 (caus st.lines 0), .int .i64 (caus st.lines 1), .int .i64 (caus st.lines 2)] ∧ Ctx W w' ((LedO q st ++ R) ++ G) Φ) cx ?_).mono fun e w' ⟨v, he, hv, c'⟩ => ⟨_, _, _, by rw [he, hv], _, Φ, inferInstance, c', hk⟩
  exact fun w G2 cx => ⟨by omega, _, cx.get 0 (i := 3) rfl rfl, by omega, _, cx.get 0 (i := 4) rfl rfl, by omega, _, cx.get 0 (i := 5) rfl rfl, fun w G3 cx => ⟨rfl, cx.left⟩⟩

theorem new_q {b m : Nat} : LedQ ⟨b, none, 0, [], none, 0, m, [], 0⟩ ⟨[], []⟩ where
  map := ⟨List.Pairwise.nil, List.Pairwise.nil, by simp⟩
  cnt := fun k => rfl
  lpt := fun h => by simp at h
  bpt := fun h => by simp at h
  lcap := ⟨Nat.le_refl _, Nat.zero_le _⟩
  cells := fun i h => by simp at h
  len := rfl
theorem new_s : LedS ⟨[], []⟩ := ⟨by simp, by simp, by simp, by simp, by simp⟩
theorem New_to [Stable Φ] (c : Ctx W w (R ++ G) Φ) {K : Option Addr → List Own → PW → Prop}
    (hk : ∀ q : LP, LedQ q ⟨[], []⟩ → Stable (fun M w => Φ M w ∧ LF q ⟨[], []⟩ M w) → K (some ⟨q.lb, 0, none⟩) (LedO q ⟨[], []⟩ ++ R) (fun M w => Φ M w ∧ LF q ⟨[], []⟩ M w)) :
    Calls Tryz.prog F.ledger_New #[] w fun e w' => ∃ p, e = .returned (.pointer p) ∧ ∃ R' Φ', Stable Φ' ∧ Ctx W w' (R' ++ G) Φ' ∧ K p R' Φ' := by
  refine (Bledger_New_run (R := R ++ G) (J := fun v w' => ∃ p, v = .pointer p ∧ ∃ R' Φ', Stable Φ' ∧ Ctx W w' (R' ++ G) Φ' ∧ K p R' Φ') c ?_).mono fun e w' ⟨v, he, p, hv, rest⟩ => ⟨p, by rw [he, hv], rest⟩
  intro k0 k1 w2 G2 cx
  have cx := Ctx.left (S := .blk k1 _ 79 :: .obj k0 (.map #[] 0) :: (R ++ G)) cx
  have c2 := (cx.nobuf 86 3)
  have c3 := c2.nobuf 51 7
  have c4 : Ctx W w2 (.blk k1 [.slice none 0 0, .slice none 0 0, .map (some k0), .int .i64 0, .int .i64 0, .int .i64 0] 79 :: .buf none 0 0 [] 51 7 :: .buf none 0 0 [] 86 3 :: .obj k0 (.map #[] 0) :: (R ++ G)) Φ := c3.perm (List.perm_middle (l₁ := [_, _]) (a := _))
  exact ⟨_, rfl, LedO ⟨k1, none, 0, [], none, 0, k0, [], 0⟩ ⟨[], []⟩ ++ R, _, instStableAnd Φ (fun M w => Elems M w [] ([] : List LineD)), c4.weak fun M w h => ⟨h, Elems.nil⟩, hk ⟨k1, none, 0, [], none, 0, k0, [], 0⟩ new_q (instStableAnd Φ (fun M w => Elems M w [] ([] : List LineD)))⟩
end
end Go.Proofs.YtbkpfhhhbhaecaaGreatDoor
end

section
set_option linter.unusedVariables false
set_option linter.unusedSimpArgs false
namespace Go.Proofs.YtbkpfhhhbhaecaaGreatDoor
open Go.Vc


theorem app_s {st : LedD} {no mark : Int} {L : List LineD} (hs : LedS st) (hr : ∀ x ∈ L, x.row.length ≤ 13) (ht : ∀ x ∈ L, ∀ v ∈ x.row, v.text.size ≤ 300) (h1 : (st.lines ++ L).length ≤ 150000) (h2 : st.bats.length + 1 ≤ 600000) : LedS (appP st no mark L) where
  lines := h1
  bats := by show (st.bats ++ [_]).length ≤ _; rw [List.length_append]; exact h2
  row := fun x hx => (List.mem_append.1 hx).elim (hs.row x) (hr x)
  text := fun x hx => (List.mem_append.1 hx).elim (hs.text x) (ht x)
  stop := fun b hb => by
    show b.stop ≤ (st.lines ++ L).length
    rcases List.mem_append.1 hb with h | h
    · have := hs.stop b h
      rw [List.length_append]; omega
    · rw [List.mem_singleton.1 h]; exact Nat.le_refl _
theorem app_bats {st : LedD} {no mark : Int} {L : List LineD} (hs : LedS st) (hb : BatsOk st) (h1 : I64 no) (h2 : I64 mark) : BatsOk (appP st no mark L) := by
  refine ⟨fun i hi => ?_, fun b hm => ?_⟩
  · have hi : i < (st.bats ++ [(⟨no, mark, (st.lines ++ L).length⟩ : BatD)]).length := hi
    show begP (st.bats ++ [(⟨no, mark, (st.lines ++ L).length⟩ : BatD)]) i ≤ (st.bats ++ [(⟨no, mark, (st.lines ++ L).length⟩ : BatD)])[i].stop
    rw [List.length_append, List.length_singleton] at hi
    have e : begP (st.bats ++ [(⟨no, mark, (st.lines ++ L).length⟩ : BatD)]) i = begP st.bats i := by
      unfold begP
      by_cases h0 : i = 0
      · rw [if_pos h0, if_pos h0]
      · rw [if_neg h0, if_neg h0, List.getElem?_append_left (by omega)]
    rw [e]
    by_cases hlt : i < st.bats.length
    · rw [List.getElem_append_left hlt]
      exact hb.1 i hlt
    · have hie : i = st.bats.length := by omega
      subst hie
      rw [List.getElem_append_right (Nat.le_refl _)]
      simp only [Nat.sub_self, List.getElem_cons_zero]
      unfold begP
      split
      · exact Nat.zero_le _
      · rw [List.getElem?_eq_getElem (by omega)]
        have := hs.stop _ (List.getElem_mem (l := st.bats) (n := st.bats.length - 1) (by omega))
        rw [List.length_append]
        show st.bats[st.bats.length - 1].stop ≤ _
        omega
  · rcases List.mem_append.1 hm with h | h
    · exact hb.2 b h
    · rw [List.mem_singleton.1 h]; exact ⟨h1, h2⟩

section
variable {Φ : PW} {q : LP} {st : LedD} {W w : World} {R S G : List Own} {p r : Option Addr} {cap cap2 : Nat}

theorem EqualH [Stable Φ] {a b : List DeltaD} [hΦ : Has Φ (fun M w => Sl M w p a)] [hΨ : Has Φ (fun M w => Sl M w r b)] (hlen : a.length ≤ 1000000) :
    GivesIn Φ Tryz.prog F.errataref28_Equal #[.slice p a.length cap, .slice r b.length cap2] (.bool (decide (a = b))) := Equal_in p cap a r cap2 b hΦ.go hΨ.go (by omega)

theorem Append_to [Stable Φ] {no mark : Int} {L : List LineD} [hT : Has Φ TabI] [hF : Has Φ (LF q st)] [hL : Has Φ (fun M w => Sl M w p L)] (hq : LedQ q st) (hs : LedS st) (hk : CntOk st) (hlen : L.length ≤ 150000) (hrow : ∀ x ∈ L, x.row.length ≤ 1000000)
    (c : Ctx W w ((LedO q st ++ R) ++ G) Φ) {K : Int → List Own → PW → Prop}
    (h0 : checkP st no mark L ≠ 0 → K (checkP st no mark L) (LedO q st ++ R) Φ)
    (h1 : ∀ q', checkP st no mark L = 0 → RowsFit L → q'.lb = q.lb → LedQ q' (appP st no mark L) → Stable (fun M w => Φ M w ∧ LF q' (appP st no mark L) M w) → K 0 (LedO q' (appP st no mark L) ++ R) (fun M w => Φ M w ∧ LF q' (appP st no mark L) M w)) :
    Calls Tryz.prog F.ledger_Ledger_Append #[led q, .int .i64 no, .int .i64 mark, .slice p L.length cap] w fun e w' => ∃ n, e = .returned (.int .i64 n) ∧ ∃ R' Φ', Stable Φ' ∧ Ctx W w' (R' ++ G) Φ' ∧ K n R' Φ' := by
  have hth := (hL.go _ _ c.phi).there
  obtain ⟨cs, c1⟩ := srcOf c (hL.go _ _ c.phi)
  refine (Append_use (Φ := fun M w => Φ M w ∧ SrcF p L cs M w) hq hs hk (src_fact hth fun M w h => h.2) hlen hrow c1 (K := fun n R' Φ' => ∃ Φ2, Stable Φ2 ∧ (∀ M w, Φ' M w → Φ2 M w) ∧ K n R' Φ2)
    (fun hz => ⟨Φ, inferInstance, fun M w h => h.1, h0 hz⟩) (fun q' hz hf hlb hq' _ => ⟨_, inferInstance, fun M w h => ⟨h.1.1, h.2⟩, h1 q' hz hf hlb hq' inferInstance⟩)).mono fun e w' ⟨n, he, R', Φ', hst, cx, Φ2, hst2, hw, hK⟩ => ⟨n, he, R', Φ2, hst2, cx.weak hw, hK⟩
end

abbrev v7 : List ValD := [⟨0, 7, ByteArray.mk #[]⟩]
abbrev v8 : List ValD := [⟨0, 8, ByteArray.mk #[]⟩]
abbrev sL1 : List LineD := [⟨1, 1, 5, v7, 2, 0, 0⟩]
abbrev sL2 : List LineD := [⟨2, 3, 5, v7, -1, 1, 0⟩, ⟨3, 3, 12, v8, 1, 0, 0⟩]
abbrev sL3 : List LineD := [⟨4, 4, 5, v7, -2, 1, 0⟩]
abbrev sT1 : LedD := appP ⟨[], []⟩ 1 10 sL1
abbrev sT2 : LedD := appP sT1 3 20 sL2
theorem s_c1 : checkP ⟨[], []⟩ 1 10 sL1 = 0 := by decide +kernel
theorem s_c2 : checkP sT1 3 20 sL2 = 0 := by decide +kernel
theorem s_c3 : checkP sT2 4 20 sL3 = 7 := by decide +kernel
theorem s_cnt : cntL sT2.lines (5, rowB v7) = 1 := by decide +kernel
theorem s_net : netP sT2.lines = [⟨5, v7, 1⟩, ⟨12, v8, 1⟩] := by decide +kernel
theorem s_at : netP (sT2.lines.take (endP sT2.bats 1 0)) = [⟨5, v7, 2⟩] := by decide +kernel
theorem v7_rep {M : List Nat} {w : World} : Gv.rep M w [.int .i64 0, .int .i64 7, .string (ByteArray.mk #[])] (⟨0, 7, ByteArray.mk #[]⟩ : ValD) := val_rep (v := ⟨0, 7, ByteArray.mk #[]⟩) (by unfold I64; decide)
theorem v8_rep {M : List Nat} {w : World} : Gv.rep M w [.int .i64 0, .int .i64 8, .string (ByteArray.mk #[])] (⟨0, 8, ByteArray.mk #[]⟩ : ValD) := val_rep (v := ⟨0, 8, ByteArray.mk #[]⟩) (by unfold I64; decide)
end Go.Proofs.YtbkpfhhhbhaecaaGreatDoor
end

section
set_option linter.unusedVariables false
set_option linter.unusedSimpArgs false
namespace Go.Proofs.YtbkpfhhhbhaecaaGreatDoor
open Go.Vc


theorem Ctx.rev3 {W w : World} {S : List Own} {Φ : PW} [Stable Φ] {a b x : Own} (c : Ctx W w (a :: b :: x :: S) Φ) : Ctx W w (x :: b :: a :: S) Φ := c.perm (List.Perm.append_right S (List.reverse_perm [x, b, a]))
theorem line_s {M : List Nat} {w : World} {no b t n c : Int} {r : List ValD} {k : Nat} (hr : r.length = 1) (h : I64 no ∧ I64 b ∧ I64 t ∧ I64 n ∧ I64 c) (hs : Sl M w (some ⟨k, 0, none⟩) r) :
    Gv.rep M w [.int .i64 no, .int .i64 b, .int .i64 t, .slice (some ⟨k, 0, none⟩) 1 1, .int .i64 n, .int .i64 c, .int .i64 0] (⟨no, b, t, r, n, c, 0⟩ : LineD) := by
  have := rep_line (x := ⟨no, b, t, r, n, c, 0⟩) (p := some ⟨k, 0, none⟩) (c := 1) (M := M) (w := w) (by show r.length ≤ 1; omega) (by decide) ⟨h.1, h.2.1, h.2.2.1, h.2.2.2.1, h.2.2.2.2, by show I64 0; unfold I64; omega⟩ hs
  unfold LineD.cells at this
  simp only [hr] at this
  exact this
theorem delta_s {M : List Nat} {w : World} {t n : Int} {r : List ValD} {k : Nat} (hr : r.length = 1) (h : I64 t ∧ I64 n) (hs : Sl M w (some ⟨k, 0, none⟩) r) :
    Gv.rep M w [.int .i64 t, .slice (some ⟨k, 0, none⟩) 1 1, .int .i64 n] (⟨t, r, n⟩ : DeltaD) := by
  have := rep_delta (x := ⟨t, r, n⟩) (p := some ⟨k, 0, none⟩) (c := 1) (M := M) (w := w) (by show r.length ≤ 1; omega) (by decide) h.1 h.2 hs
  unfold DeltaD.cells at this
  simp only [hr] at this
  exact this
theorem s_s1 : LedS sT1 := ⟨by decide, by decide, by decide, by decide, by decide⟩
theorem s_s2 : LedS sT2 := ⟨by decide, by decide, by decide, by decide, by decide⟩
theorem s_cnt0 : CntOk ⟨[], []⟩ := fun k => ⟨Int.le_refl 0, by show (0 : Int) ≤ _; omega⟩

set_option maxHeartbeats 4000000 in
theorem small41_in {Φ : PW} [Stable Φ] [hT : Has Φ TabI] : GivesIn Φ Tryz.prog F.erratalaw41_small #[] (.bool true) := by
  refine gives_in (Berratalaw41_small_run) fun W R => ?_
  refine fun w G cx => New_to cx fun q hq st0 => Br.intro (fun h => by cases h) (fun _ => fun k9 k10 k11 w G cx => ?_)
  have cx := Ctx.rev3 (S := (LedO q ⟨[], []⟩ ++ R) ++ G) cx
  obtain ⟨ca, ha⟩ := Ctx.freezeBlk (α := ValD) (l := v7) cx (Elems.one v7_rep)
  have ca := ca.add (Ψ := fun M w => Sl M w (some ⟨k9, 0, none⟩) v7) ha
  obtain ⟨cb, hb⟩ := Ctx.freezeBlk (α := ValD) (l := v8) ca (Elems.one v8_rep)
  have cb := cb.add (Ψ := fun M w => Sl M w (some ⟨k10, 0, none⟩) v8) hb
  obtain ⟨cc, hc⟩ := Ctx.freezeBlk (α := LineD) (l := sL1) cb (Elems.one (line_s rfl (by unfold I64; decide) cb.phi.1.2))
  have cc := cc.add (Ψ := fun M w => Sl M w (some ⟨k11, 0, none⟩) sL1) hc
  clear cx ca ha cb hb hc
  refine Append_to (q := q) (st := ⟨[], []⟩) (L := sL1) (no := 1) (mark := 10) hq new_s s_cnt0 (by decide) (by decide) cc (fun h => absurd s_c1 h) fun q1 _ hf1 hlb1 hq1 st1 => ?_
  clear cc
  have hc1 : CntOk sT1 := (check_ok s_c1).cnt hf1 s_cnt0
  have hq1 : LedQ q1 sT1 := hq1
  rw [← hlb1]
  refine fun k19 w G cx => ?_
  obtain ⟨cd, hd⟩ := Ctx.freezeBlk (α := LineD) (l := sL2) cx (Elems.two (cs := [.int .i64 2, .int .i64 3, .int .i64 5, .slice (some ⟨k9, 0, none⟩) 1 1, .int .i64 (-1), .int .i64 1, .int .i64 0]) (line_s rfl (by unfold I64; decide) (Ctx.has (Ψ := fun M w => Sl M w (some ⟨k9, 0, none⟩) v7) cx).phi) (line_s rfl (by unfold I64; decide) (Ctx.has (Ψ := fun M w => Sl M w (some ⟨k10, 0, none⟩) v8) cx).phi))
  have cd := cd.add (Ψ := fun M w => Sl M w (some ⟨k19, 0, none⟩) sL2) hd
  clear cx hd
  refine Append_to (q := q1) (st := sT1) (L := sL2) (no := 3) (mark := 20) hq1 s_s1 hc1 (by decide) (by decide) cd (fun h => absurd s_c2 h) fun q2 _ hf2 hlb2 hq2 st2 => ?_
  clear cd
  have hc2 : CntOk sT2 := (check_ok s_c2).cnt hf2 hc1
  have hq2 : LedQ q2 sT2 := hq2
  rw [← hlb2]
  refine fun k27 w G cx => ?_
  obtain ⟨ce, he⟩ := Ctx.freezeBlk (α := LineD) (l := sL3) cx (Elems.one (line_s rfl (by unfold I64; decide) (Ctx.has (Ψ := fun M w => Sl M w (some ⟨k9, 0, none⟩) v7) cx).phi))
  have ce := ce.add (Ψ := fun M w => Sl M w (some ⟨k27, 0, none⟩) sL3) he
  clear cx he
  refine Append_to (q := q2) (st := sT2) (L := sL3) (no := 4) (mark := 20) hq2 s_s2 hc2 (by decide) (by decide) ce (fun _ => ?_) fun q3 hz => absurd (hz.symm.trans s_c3) (by decide)
  clear ce
  rw [s_c3]
  refine fun w G cx => Causes_to (q := q2) (st := sT2) cx ?_
  clear cx
  refine Br.intro (fun _ => Br.intro (fun _ => Br.intro (fun _ => ?_) (fun h => absurd rfl (of_decide_eq_false h))) (fun h => absurd rfl (of_decide_eq_false h))) (fun h => absurd rfl (of_decide_eq_false h))
  have hcq := fun (Ψ : PW) (s : Stable Ψ) (h1 : Has Ψ TabI) (h2 : Has Ψ (fun M w => Sl M w (some ⟨k9, 0, none⟩) v7)) => Count_q (Φ := Ψ) (q := q2) (st := sT2) (t := 5) (r := v7) (p := some ⟨k9, 0, none⟩) (cap := 1) hq2 (by decide) (by decide)
  rw [s_cnt] at hcq
  refine fun w G cx => (hcq _ inferInstance inferInstance inferInstance).toI cx ?_
  clear cx hcq
  refine Br.intro (fun _ => Br.intro (fun _ => Br.intro (fun _ => Br.intro (fun _ => ?_) (fun h => absurd rfl (of_decide_eq_false h))) (fun h => absurd rfl (of_decide_eq_false h))) (fun h => absurd rfl (of_decide_eq_false h))) (fun h => absurd rfl (of_decide_eq_false h))
  have hnq := fun (Ψ : PW) (s : Stable Ψ) (h1 : Has Ψ (LF q2 sT2)) => Net_q (Φ := Ψ) (q := q2) (st := sT2) hq2 s_s2
  rw [s_net] at hnq
  refine fun w G cx => (hnq _ inferInstance inferInstance).tot cx fun p1 c1 _ _ _ st3 => ?_
  clear cx hnq
  refine fun k60 w G cx => ?_
  obtain ⟨cf, hf⟩ := Ctx.freezeBlk (α := DeltaD) (l := [⟨5, v7, 1⟩, ⟨12, v8, 1⟩]) cx (Elems.two (cs := [.int .i64 5, .slice (some ⟨k9, 0, none⟩) 1 1, .int .i64 1]) (delta_s rfl (by unfold I64; decide) (Ctx.has (Ψ := fun M w => Sl M w (some ⟨k9, 0, none⟩) v7) cx).phi) (delta_s rfl (by unfold I64; decide) (Ctx.has (Ψ := fun M w => Sl M w (some ⟨k10, 0, none⟩) v8) cx).phi))
  have cf := cf.add (Ψ := fun M w => Sl M w (some ⟨k60, 0, none⟩) ([⟨5, v7, 1⟩, ⟨12, v8, 1⟩] : List DeltaD)) hf
  clear cx hf
  refine (EqualH (a := [⟨5, v7, 1⟩, ⟨12, v8, 1⟩]) (b := [⟨5, v7, 1⟩, ⟨12, v8, 1⟩]) (p := p1) (cap := c1) (r := some ⟨k60, 0, none⟩) (cap2 := 2) (by decide)).toB cf ?_
  clear cf
  rw [decide_eq_true rfl]
  refine Br.intro (fun _ => ?_) (fun h => by cases h)
  have haq := fun (Ψ : PW) (s : Stable Ψ) (h1 : Has Ψ (LF q2 sT2)) => At_q (Φ := Ψ) (q := q2) (st := sT2) (no := 1) hq2 s_s2
  rw [s_at] at haq
  refine fun w G cx => (haq _ inferInstance inferInstance).tot cx fun p2 c2 _ _ _ st4 => ?_
  clear cx haq
  refine fun k77 w G cx => ?_
  obtain ⟨cg, hg⟩ := Ctx.freezeBlk (α := DeltaD) (l := [⟨5, v7, 2⟩]) cx (Elems.one (delta_s rfl (by unfold I64; decide) (Ctx.has (Ψ := fun M w => Sl M w (some ⟨k9, 0, none⟩) v7) cx).phi))
  have cg := cg.add (Ψ := fun M w => Sl M w (some ⟨k77, 0, none⟩) ([⟨5, v7, 2⟩] : List DeltaD)) hg
  clear cx hg
  refine (EqualH (a := [⟨5, v7, 2⟩]) (b := [⟨5, v7, 2⟩]) (p := p2) (cap := c2) (r := some ⟨k77, 0, none⟩) (cap2 := 1) (by decide)).toB cg ?_
  clear cg
  rw [decide_eq_true rfl]
  exact fun w G cx => ⟨rfl, Ctx.has (Ctx.right (S := LedO q2 sT2) (cx.re (List.append_assoc _ _ _))).left⟩
end Go.Proofs.YtbkpfhhhbhaecaaGreatDoor
end

section
set_option linter.unusedVariables false
set_option linter.unusedSimpArgs false
namespace Go.Proofs.YtbkpfhhhbhaecaaGreatDoor
open Go.Vc

end Go.Proofs.YtbkpfhhhbhaecaaGreatDoor
end

section
set_option linter.unusedVariables false
set_option linter.unusedSimpArgs false
namespace Go.Proofs.YtbkpfhhhbhaecaaGreatDoor
open Go.Vc


section
variable {Φ : PW} {q : LP} {st : LedD} {W w : World} {Q R S G : List Own} {P : Program} {f : FuncId} {args : Array Value}

theorem perm_in {B : Own} : (B :: (Q ++ R) ++ G).Perm (Q ++ (B :: (R ++ G))) := by
  rw [List.cons_append, List.append_assoc]
  exact List.perm_middle.symm
theorem _root_.Go.Vc.GivesQ.toI1 [Stable Φ] {B : Own} {n : Int} {k : IntKind} (h : GivesQ Q Φ P f args (.int k n)) (c : Ctx W w ((B :: (Q ++ R)) ++ G) Φ) {K : Int → List Own → PW → Prop} (hk : K n (B :: (Q ++ R)) Φ) :
    Calls P f args w fun e w' => ∃ n, e = .returned (.int k n) ∧ ∃ R' Φ', Stable Φ' ∧ Ctx W w' (R' ++ G) Φ' ∧ K n R' Φ' :=
  (h.go W w (B :: (R ++ G)) (c.perm perm_in)).mono fun e w' ⟨he, c'⟩ => ⟨n, he, B :: (Q ++ R), Φ, inferInstance, c'.perm perm_in.symm, hk⟩

abbrev fitOf (st : LedD) (x : PushD) : PushD := fitP x (lastP st).no (lastP st).mark ((st.lines.length : Int) + 1)
abbrev zPush : List Value := [.int .i64 0, .int .i64 0, .slice none 0 0, .bool false]

end
end Go.Proofs.YtbkpfhhhbhaecaaGreatDoor
end

section
set_option linter.unusedVariables false
set_option linter.unusedSimpArgs false
namespace Go.Proofs.YtbkpfhhhbhaecaaGreatDoor
open Go.Vc


structure Inv (st : LedD) : Prop where
  cnt : CntOk st
  bats : BatsOk st
  time : ∀ x ∈ st.lines, x.time ≤ (lastP st).mark
  mark : -1 ≤ (lastP st).mark ∧ (lastP st).mark ≤ 1099511627776
  fit : RowsFit st.lines

theorem last_app (st : LedD) (no mark : Int) (L : List LineD) : lastP (appP st no mark L) = ⟨no, mark, (st.lines ++ L).length⟩ := by
  unfold lastP appP
  rw [List.getLast?_append]; rfl
theorem Inv.start : Inv ⟨[], []⟩ where
  cnt := s_cnt0
  bats := ⟨fun i h => by simp at h, by simp⟩
  time := by simp
  mark := by decide
  fit := fun x hx => by simp at hx
theorem Inv.app {st : LedD} {no mark : Int} {L : List LineD} (h : Inv st) (hs : LedS st) (ac : AccB st no mark L) (hf : RowsFit L) (h1 : I64 no) : Inv (appP st no mark L) where
  cnt := ac.cnt hf h.cnt
  bats := app_bats hs h.bats h1 (by have := h.mark; have := ac.gmark; have := ac.most; unfold I64; omega)
  time := fun x hx => by
    rw [last_app]
    show x.time ≤ mark
    rcases List.mem_append.1 hx with hx | hx
    · have := h.time x hx; have := ac.gmark; omega
    · obtain ⟨_, g⟩ := ac.mem hx
      exact g.t1
  mark := by
    rw [last_app]
    show -1 ≤ mark ∧ mark ≤ _
    have := h.mark; have := ac.gmark; have := ac.most; omega
  fit := fun x hx => by
    rcases List.mem_append.1 hx with hx | hx
    · exact h.fit x hx
    · exact hf x hx

theorem sum_cnt {z : LineD} (hz : ∀ v ∈ z.row, FitV v) (hzl : z.row.length ≤ 1000000) : ∀ {l : List LineD}, RowsFit l → (∀ x ∈ l, x.row.length ≤ 1000000) → sumK (l.map LineD.d) z.key = cntL l z.at
  | [], _, _ => rfl
  | x :: l, hf, hr => by
    have ih := sum_cnt hz hzl (l := l) (fun y hy => hf y (by simp [hy])) (fun y hy => hr y (by simp [hy]))
    show (if x.d.key = z.key then x.d.n else 0) + sumK (l.map LineD.d) z.key = (if x.at = z.at then x.n else 0) + cntL l z.at
    rw [ih]
    congr 1
    by_cases h : x.at = z.at
    · rw [if_pos h, if_pos (key_of_at (hf x (by simp)) hz (hr x (by simp)) hzl h)]; rfl
    · rw [if_neg h, if_neg]
      intro e
      apply h
      have e1 : x.time = z.time := congrArg Prod.fst e
      have e2 : x.row = z.row := congrArg Prod.snd e
      unfold LineD.at
      rw [e1, e2]

theorem few_out {l : List PushD} {n : Int} (h : fewL l n = true) : (l.length : Int) ≤ n ∧ ∀ x ∈ l, x.l.length ≤ 12 ∧ (∀ y ∈ x.l, y.row.length ≤ 13 ∧ ∀ v ∈ y.row, v.text.size ≤ 300) := by
  unfold fewL at h
  rw [Bool.and_eq_true] at h
  refine ⟨of_decide_eq_true h.2, fun x hx => ?_⟩
  have h1 := List.all_eq_true.1 h.1 x hx
  unfold shortL at h1
  rw [Bool.and_eq_true] at h1
  have h2 := of_decide_eq_true h1.2
  refine ⟨by omega, fun y hy => ?_⟩
  obtain ⟨g1, g2⟩ := short_out (List.all_eq_true.1 h1.1 y hy)
  exact ⟨by omega, g1⟩
end Go.Proofs.YtbkpfhhhbhaecaaGreatDoor
end

section
set_option linter.unusedVariables false
set_option linter.unusedSimpArgs false
namespace Go.Proofs.YtbkpfhhhbhaecaaGreatDoor
open Go.Vc


section
variable {Φ : PW} {q : LP} {st : LedD} {W w : World} {R S G : List Own} {p : Option Addr} {cap : Nat}

end
end Go.Proofs.YtbkpfhhhbhaecaaGreatDoor
end

section
set_option linter.unusedVariables false
set_option linter.unusedSimpArgs false
namespace Go.Proofs.YtbkpfhhhbhaecaaGreatDoor
open Go.Vc


def sameL (x y : LineD) : Bool := decide (x.no = y.no) && decide (x.batch = y.batch) && decide (x.time = y.time) && decide (x.n = y.n) && decide (x.cause = y.cause) && decide (x.why = y.why) && decide (cmpR x.row y.row = 0)
theorem sameL_refl (x : LineD) : sameL x x = true := by unfold sameL; simp [cmpR_cmp.refl]
def sameLs (a b : List LineD) : Bool := decide (a.length = b.length) && (a.zip b).all fun x => sameL x.1 x.2
theorem sameLs_refl (a : List LineD) : sameLs a a = true := by
  unfold sameLs
  rw [decide_eq_true rfl, Bool.true_and]
  refine List.all_eq_true.2 fun x hx => ?_
  have : x.1 = x.2 := by
    obtain ⟨i, hi, rfl⟩ := List.getElem_of_mem hx
    rw [List.getElem_zip]
  rw [this]; exact sameL_refl _
def isAt (t : Int) (r : List ValD) (x : LineD) : Bool := decide (x.time = t) && decide (x.row = r)
def histP (l : List LineD) (t : Int) (r : List ValD) : List LineD := l.filter (isAt t r)

section
variable {Φ : PW} {q : LP} {st : LedD} {W w : World} {R S G : List Own} {p r : Option Addr} {cap cap2 : Nat}

theorem Same03r_in [Stable Φ] {a b : List ValD} [hA : Has Φ (fun M w => Sl M w p a)] [hB : Has Φ (fun M w => Sl M w r b)] (hlen : a.length ≤ 1000000) : GivesIn Φ Tryz.prog F.errataref03_Same #[.slice p a.length cap, .slice r b.length cap2] (.bool (decide (cmpR a b = 0))) :=
  gives_in (Berrataref03_Same_run p a.length cap r b.length cap2) fun W R => fun w G cx => (rCompareRows_in p r cap cap2 a b hA.go hB.go (by omega)).toI cx fun w G cx => ⟨rfl, cx.left⟩
theorem SameLine_in [Stable Φ] (x y : LineD) [hA : Has Φ (fun M w => Sl M w p x.row)] [hB : Has Φ (fun M w => Sl M w r y.row)] (hlen : x.row.length ≤ 1000000) : GivesIn Φ Tryz.prog F.errataref41_SameLine #[x.v p cap, y.v r cap2] (.bool (sameL x y)) := by
  refine gives_in (Berrataref41_SameLine_run x.no x.batch x.time p x.row.length cap x.n x.cause x.why y.no y.batch y.time r y.row.length cap2 y.n y.cause y.why) fun W R => fun _ _ => ?_
  unfold sameL
  refine Br.intro (fun h => ?_) (fun h => fun w G cx => ⟨by rw [h]; rfl, cx.left⟩)
  rw [h]
  refine Br.intro (fun h => ?_) (fun h => fun w G cx => ⟨by rw [h]; rfl, cx.left⟩)
  rw [h]
  refine Br.intro (fun h => ?_) (fun h => fun w G cx => ⟨by rw [h]; rfl, cx.left⟩)
  rw [h]
  refine Br.intro (fun h => ?_) (fun h => fun w G cx => ⟨by rw [h]; rfl, cx.left⟩)
  rw [h]
  refine Br.intro (fun h => ?_) (fun h => fun w G cx => ⟨by rw [h]; rfl, cx.left⟩)
  rw [h]
  refine Br.intro (fun h => ?_) (fun h => fun w G cx => ⟨by rw [h]; rfl, cx.left⟩)
  rw [h]
  exact fun w G cx => (Same03r_in (a := x.row) (b := y.row) hlen).toB cx fun w G cx => ⟨rfl, cx.left⟩

theorem _root_.Go.Vc.GivesQSl.src [Stable Φ] {Q : List Own} {f : FuncId} {args : Array Value} {l : List LineD} (h : GivesQSl Q Φ Tryz.prog f args l) (c : Ctx W w ((Q ++ R) ++ G) Φ) {K : Option Addr → Nat → Nat → List Own → PW → Prop}
    (hk : ∀ p cap cs, l.length ≤ cap → cap ≤ maxLen → There p l.length → Rows7 cs l → Stable (fun M w => Φ M w ∧ SrcF p l cs M w) → K p l.length cap (Q ++ R) (fun M w => Φ M w ∧ SrcF p l cs M w)) :
    Calls Tryz.prog f args w fun e w' => ∃ p n c, e = .returned (.slice p n c) ∧ ∃ R' Φ', Stable Φ' ∧ Ctx W w' (R' ++ G) Φ' ∧ K p n c R' Φ' :=
  (h.go W w (R ++ G) c.inl).mono fun e w' ⟨p, cap, he, h1, h2, c'⟩ => by
    obtain ⟨cs, c2⟩ := srcOf c' c'.phi.2
    have hst : Stable (fun M w => Φ M w ∧ SrcF p l cs M w) := instStableAnd Φ (fun M w => SrcF p l cs M w)
    exact ⟨p, _, cap, he, Q ++ R, _, hst, c2.outl.weak fun M w h => ⟨h.1.1, h.2⟩, hk p cap cs h1 h2 c'.phi.2.there (rows7 c2.phi.2.2) hst⟩

theorem pushL {PS : PW} [Stable PS] {op : Option Addr} {oc : Nat} {ds : List Value} {o : List LineD} {x : LineD} {a : Option Addr} {ac kb : Nat} (hx : ∀ M w, PS M w → Gv.rep M w (x.cells a ac) x) (ho : o.length < 10000000)
    (cx : Ctx W w (.blk kb (x.cells a ac) 51 :: .buf op o.length oc ds 51 7 :: R ++ G) (fun M w => PS M w ∧ Elems M w ds o)) :
    ∃ p c w', Sem.run Tryz.prog (builtin Builtin.append #[31, 31] 31 #[false, false] #[.slice op o.length oc, .slice (some ⟨kb, 0, none⟩) 1 1]) w = .ok (.value (.slice p (o ++ [x]).length c)) w' ∧ Ctx W w' (.buf p (o ++ [x]).length c (ds ++ x.cells a ac) 51 7 :: R ++ G) (fun M w => PS M w ∧ Elems M w (ds ++ x.cells a ac) (o ++ [x])) := by
  obtain ⟨p', cap', w', hrun, _, cx'⟩ := Ctx.app1 (P := Tryz.prog) (ts := 31) (ty := 31) (kb := #[false, false]) (size := 7) (bytes := 72) cx (by kernel_rfl) (by omega) rfl rfl (by omega) (by omega)
  have e : o.length + 1 = (o ++ [x]).length := by simp
  rw [e] at hrun cx'
  exact ⟨p', cap', w', hrun, cx'.weak fun M w h => ⟨h.1, h.2.snoc (hx M w h.1)⟩⟩

set_option maxHeartbeats 1000000 in
theorem History_q [Stable Φ] {t : Int} {rw : List ValD} (hq : LedQ q st) (hs : LedS st) [hF : Has Φ (LF q st)] [hR : Has Φ (fun M w => Sl M w r rw)] : GivesQSl (LedO q st) Φ Tryz.prog F.ledger_Ledger_History #[led q, .int .i64 t, .slice r rw.length cap] (histP st.lines t rw) := by
  have hsl := hs.lines
  refine gives_qsl (Bledger_Ledger_History_run q.lb 0 t r rw.length cap) fun W R => fun w G cx => ⟨_, _, _, led_cell (i := 0) cx rfl, ?_⟩
  have hel := hF.go _ _ cx.phi
  have hc : Rows7 q.cs st.lines := hq.cells
  clear cx
  refine exI_mk (fun op on oc iI R' Φ' k => ∃ (i : Nat) (ds : List Value), iI = i ∧ i ≤ st.lines.length ∧ on = ((st.lines.take i).filter (isAt t rw)).length ∧ R' = .buf op on oc ds 51 7 :: (LedO q st ++ R) ∧ Φ' = (fun M w => Φ M w ∧ Elems M w ds ((st.lines.take i).filter (isAt t rw))) ∧ k = st.lines.length - i)
    ⟨⟨.buf none 0 0 [] 51 7 :: (LedO q st ++ R), fun M w => Φ M w ∧ Elems M w [] ((st.lines.take 0).filter (isAt t rw)), _, inferInstance, fun w G cx => (cx.weak fun M w h => ⟨h, Elems.nil⟩).nobuf 51 7, 0, [], rfl, Nat.zero_le _, rfl, rfl, rfl, rfl⟩, ?_⟩
  rintro op _ oc iI R1 Φ1 k _ ⟨i, ds, rfl, hi, rfl, rfl, rfl, rfl⟩
  have hln : ((st.lines.take i).filter (isAt t rw)).length ≤ i := Nat.le_trans (List.length_filter_le _ _) (by rw [List.length_take]; omega)
  have hst : Stable (fun M w => Φ M w ∧ Elems M w ds ((st.lines.take i).filter (isAt t rw))) := inferInstance
  refine Br.intro (fun hlt => ?_) (fun hge => fun w G cx => ?_)
  · have hlt : i < st.lines.length := by have := of_decide_eq_true hlt; omega
    obtain ⟨g, hg⟩ := hq.lpt (by omega)
    obtain ⟨a, ac, he, h1, h2, h3⟩ := hc i hlt
    have htk : (st.lines.take (i + 1)).filter (isAt t rw) = (st.lines.take i).filter (isAt t rw) ++ if isAt t rw st.lines[i] = true then [st.lines[i]] else [] := by
      rw [List.take_succ_eq_append_getElem hlt, List.filter_append]
      congr 1
      by_cases h : isAt t rw st.lines[i] = true
      · rw [if_pos h, List.filter_cons_of_pos h]; rfl
      · rw [if_neg h, List.filter_cons_of_neg h]; rfl
    have hrow : ∀ M w, (Φ M w ∧ Elems M w ds ((st.lines.take i).filter (isAt t rw))) → Sl M w a st.lines[i].row := fun M w h => led_row (hF.go _ _ h.1) hlt he
    have hh : Has (fun M w => Φ M w ∧ Elems M w ds ((st.lines.take i).filter (isAt t rw))) (fun M w => Sl M w a st.lines[i].row) := ⟨hrow⟩
    refine ⟨by omega, ptrK_intro g 0 hg fun w G cx => ⟨st.lines[i].no, st.lines[i].batch, st.lines[i].time, a, st.lines[i].row.length, ac, st.lines[i].n, st.lines[i].cause, st.lines[i].why, by rw [Int.toNat_natCast]; exact led_line (Ctx.drop1 cx) hg he, fun _ => ?_⟩⟩
    clear cx
    have same : ¬ isAt t rw st.lines[i] = true → (st.lines.take (i + 1)).filter (isAt t rw) = (st.lines.take i).filter (isAt t rw) := fun h => by rw [htk, if_neg h, List.append_nil]
    refine Br.intro (fun h4 => fun w G cx => ?_) (fun h4 => ?_)
    · refine (SameRows_in (a := st.lines[i].row) (b := rw) (by have := hs.row _ (List.getElem_mem hlt); omega)).toB cx ?_
      clear cx
      refine Br.intro (fun h5 => fun kb w G cx => ?_) (fun h5 => ?_)
      · have hat : isAt t rw st.lines[i] = true := by unfold isAt; rw [h4, h5]; rfl
        rw [if_pos hat] at htk
        obtain ⟨p', c', w', hrun, cx'⟩ := pushL (x := st.lines[i]) (PS := Φ) (a := a) (ac := ac) (fun M w h => rep_line h1 h2 h3 (led_row (hF.go _ _ h) hlt he)) (by omega) cx
        rw [← htk] at hrun cx'
        exact ⟨p', _, c', w', hrun, _, _, @instStableAnd Φ _ _ (instStableElems (ds ++ st.lines[i].cells a ac) _), cx', by unfold I64; omega, _, _, st.lines.length - (i + 1), @instStableAnd Φ _ _ (instStableElems (ds ++ st.lines[i].cells a ac) _), fun w G cx => cx, ⟨i + 1, _, rfl, hlt, rfl, rfl, rfl, rfl⟩, by omega⟩
      · have h6 := same (by unfold isAt; rw [h5]; simp)
        exact ⟨by unfold I64; omega, _, _, st.lines.length - (i + 1), hst, fun w G cx => cx, ⟨i + 1, ds, rfl, hlt, by rw [h6], rfl, by rw [h6], rfl⟩, by omega⟩
    · have h6 := same (by unfold isAt; rw [h4]; simp)
      exact ⟨by unfold I64; omega, _, _, st.lines.length - (i + 1), hst, fun w G cx => cx, ⟨i + 1, ds, rfl, hlt, by rw [h6], rfl, by rw [h6], rfl⟩, by omega⟩
  · have hge : i = st.lines.length := by have := of_decide_eq_false hge; omega
    subst hge
    rw [List.take_length] at cx hln ⊢
    obtain ⟨cx3, hsl2, _⟩ := Ctx.freeze (α := LineD) cx.fst cx.phi.2
    exact (Cloned_sl (Φ := fun M w => Φ M w ∧ Sl M w op (histP st.lines t rw)) (l := histP st.lines t rw) (by unfold histP; omega) (fun x hx => hs.rows x (List.mem_filter.1 hx).1)).to (cx3.add hsl2) fun p' c' k1 k2 _ => fun w G cx => ⟨p', c', rfl, k1, k2, cx.left.weak fun M w h => ⟨h.1.1, h.2⟩⟩

set_option maxHeartbeats 1000000 in
theorem Line_to [Stable Φ] {no : Int} (hq : LedQ q st) (hs : LedS st) [hF : Has Φ (LF q st)] (cx : Ctx W w ((LedO q st ++ R) ++ G) Φ) {K : Int → Int → Int → Option Addr → Nat → Nat → Int → Int → Int → Bool → List Own → PW → Prop}
    (h0 : ¬ (1 ≤ no ∧ no ≤ st.lines.length) → K 0 0 0 none 0 0 0 0 0 false (LedO q st ++ R) Φ)
    (h1 : ∀ (j : Nat) (hj : j < st.lines.length) a ac, no = j + 1 → st.lines[j].row.length ≤ ac → ac ≤ maxLen → Stable (fun M w => Φ M w ∧ Sl M w a st.lines[j].row) → K st.lines[j].no st.lines[j].batch st.lines[j].time a st.lines[j].row.length ac st.lines[j].n st.lines[j].cause st.lines[j].why true (LedO q st ++ R) (fun M w => Φ M w ∧ Sl M w a st.lines[j].row)) :
    Calls Tryz.prog F.ledger_Ledger_Line #[led q, .int .i64 no] w fun e w' => ∃ a b c d f g h i j k, e = .returned (.tuple #[.agg #[.int .i64 a, .int .i64 b, .int .i64 c, .slice d f g, .int .i64 h, .int .i64 i, .int .i64 j], .bool k]) ∧ ∃ R' Φ', Stable Φ' ∧ Ctx W w' (R' ++ G) Φ' ∧ K a b c d f g h i j k R' Φ' := by
  have hsl := hs.lines
  refine (Bledger_Ledger_Line_run q.lb 0 no (R := (LedO q st ++ R) ++ G) (J := fun v w' => ∃ a b c d f g h i j k, v = .tuple #[.agg #[.int .i64 a, .int .i64 b, .int .i64 c, .slice d f g, .int .i64 h, .int .i64 i, .int .i64 j], .bool k] ∧ ∃ R' Φ', Stable Φ' ∧ Ctx W w' (R' ++ G) Φ' ∧ K a b c d f g h i j k R' Φ') cx ?_).mono fun e w' ⟨v, he, a, b, c, d, f, g, h, i, j, k, hv, rest⟩ => ⟨a, b, c, d, f, g, h, i, j, k, by rw [he, hv], rest⟩
  clear cx
  refine fun _ => Br.intro (fun h => fun w G2 cx => ⟨_, _, _, _, _, _, _, _, _, _, rfl, _, Φ, inferInstance, cx.left, h0 (by have := of_decide_eq_true h; omega)⟩) (fun h => fun w G2 cx => (Next_q hs).toI (R := R ++ G) (cx.re (by simp)) ?_)
  clear cx
  refine Br.intro (fun h2 => fun w G2 cx => ⟨_, _, _, _, _, _, _, _, _, _, rfl, _, Φ, inferInstance, cx.left.re (by simp), h0 (by have := of_decide_eq_true h2; omega)⟩) (fun h2 => fun w G2 cx => ?_)
  have h := of_decide_eq_false h
  have h2 := of_decide_eq_false h2
  obtain ⟨j, rfl⟩ : ∃ j : Nat, no = j + 1 := ⟨(no - 1).toNat, by omega⟩
  have hj : j < st.lines.length := by omega
  have hlc := hq.lcap.1
  refine ⟨_, _, _, led_cell (i := 0) cx rfl, by unfold I64; omega, by omega, ?_⟩
  clear cx
  rw [show ((j : Int) + 1 - 1).toNat = j by omega, show ((j : Int) + 1).toNat - j = 1 by omega]
  have hone : (st.lines.drop j).take 1 = [st.lines[j]] := by rw [List.drop_eq_getElem_cons hj]; rfl
  have hsrc := src_led (Φ := Φ) hq hF.go j 1 (by omega)
  rw [hone] at hsrc
  refine fun w G2 cx => (Cloned_new (cap := q.lc - j) (S := (LedO q st ++ (R ++ G)) ++ G2) hsrc.app.app (by simp) (fun x hx => hs.rows x (by rw [List.mem_singleton.1 hx]; exact List.getElem_mem _)) cx).mono fun e w' ⟨p', c', cs', he, cx⟩ => ?_
  obtain ⟨cx1, hs1, _⟩ := Ctx.freeze (α := LineD) cx cx.phi.2
  obtain ⟨cs2, cx2⟩ := srcOf cx1 hs1
  have hth := hs1.there
  obtain ⟨g, o, rfl⟩ := hth (by simp)
  have stE : Stable (fun M w => Φ M w ∧ Elems M w cs' [st.lines[j]]) := @instStableAnd Φ _ _ (instStableElems cs' [st.lines[j]])
  have stR : ∀ a : Option Addr, Stable (fun M w => Φ M w ∧ Sl M w a st.lines[j].row) := fun a => @instStableAnd Φ _ _ (instStableSl a st.lines[j].row)
  obtain ⟨a, ac, hec, m1, m2, m3⟩ := rows7 cx2.phi.2.2 0 (by simp)
  simp only [List.getElem_cons_zero] at hec m1 m3
  refine ⟨some ⟨g, o, none⟩, 1, c', he, LedO q st ++ (R ++ G), fun M w => (Φ M w ∧ Elems M w cs' [st.lines[j]]) ∧ SrcF (some ⟨g, o, none⟩) [st.lines[j]] cs2 M w, @instStableAnd _ (fun M w => SrcF (some ⟨g, o, none⟩) [st.lines[j]] cs2 M w) stE (instStableSrcF _ _ _), cx2, ⟨by omega, by omega⟩, ptrK_intro g o rfl fun w G2 cx => ?_⟩
  have src2 : Src [] (fun M w => (Φ M w ∧ Elems M w cs' [st.lines[j]]) ∧ SrcF (some ⟨g, o, none⟩) [st.lines[j]] cs2 M w) (some ⟨g, o, none⟩) [st.lines[j]] cs2 := src_fact (fun _ => ⟨g, o, rfl⟩) fun M w h => h.2
  refine ⟨st.lines[j].no, st.lines[j].batch, st.lines[j].time, a, st.lines[j].row.length, ac, st.lines[j].n, st.lines[j].cause, st.lines[j].why, ?_, fun w G2 cx => ⟨_, _, _, _, _, _, _, _, _, _, rfl, LedO q st ++ R, (fun M w => Φ M w ∧ Sl M w a st.lines[j].row), stR a, (cx.left.re (by simp)).weak fun M w h => ⟨h.1.1, ?_⟩, h1 j hj a ac rfl m1 m2 (stR a)⟩⟩
  · have := src_at (i := 0) src2 rfl (G := (LedO q st ++ (R ++ G)) ++ G2) cx hec
    rw [Nat.zero_mul, Nat.add_zero] at this
    exact this
  · have := src_sl src2 (i := 0) (by simp) (by simpa using hec) h
    simpa using this

set_option maxHeartbeats 1000000 in
theorem Batch_to [Stable Φ] {no : Int} (hq : LedQ q st) (hs : LedS st) (hb : BatsOk st) [hF : Has Φ (LF q st)] (cx : Ctx W w ((LedO q st ++ R) ++ G) Φ) {K : Option Addr → Nat → Nat → Int → Bool → List Own → PW → Prop}
    (h0 : (∀ b ∈ st.bats, b.no ≠ no) → K none 0 0 0 false (LedO q st ++ R) Φ)
    (h1 : ∀ (j : Nat) (hj : j < st.bats.length) L p c cs, st.bats[j].no = no → (∀ i (hi : i < j), (st.bats[i]'(by omega)).no ≠ no) → L = (st.lines.drop (begP st.bats j)).take (st.bats[j].stop - begP st.bats j) → L.length ≤ c → c ≤ maxLen → There p L.length → Rows7 cs L → Stable (fun M w => Φ M w ∧ SrcF p L cs M w) → K p L.length c st.bats[j].mark true (LedO q st ++ R) (fun M w => Φ M w ∧ SrcF p L cs M w)) :
    Calls Tryz.prog F.ledger_Ledger_Batch #[led q, .int .i64 no] w fun e w' => ∃ a b c d f, e = .returned (.tuple #[.slice a b c, .int .i64 d, .bool f]) ∧ ∃ R' Φ', Stable Φ' ∧ Ctx W w' (R' ++ G) Φ' ∧ K a b c d f R' Φ' := by
  have hsl := hs.lines
  have hsb := hs.bats
  refine (Bledger_Ledger_Batch_run q.lb 0 no (R := (LedO q st ++ R) ++ G) (J := fun v w' => ∃ a b c d f, v = .tuple #[.slice a b c, .int .i64 d, .bool f] ∧ ∃ R' Φ', Stable Φ' ∧ Ctx W w' (R' ++ G) Φ' ∧ K a b c d f R' Φ') cx ?_).mono fun e w' ⟨v, he, a, b, c, d, f, hv, rest⟩ => ⟨a, b, c, d, f, by rw [he, hv], rest⟩
  clear cx
  have re1 : ∀ {w : World} {G2 : List Own} {Ψ : PW}, Ctx W w (((LedO q st ++ R) ++ G) ++ G2) Ψ → Ctx W w ((LedO q st ++ (R ++ G)) ++ G2) Ψ := fun cx => cx.re (by simp)
  refine fun w G2 cx => ⟨_, _, _, led_cell (i := 1) (re1 cx) rfl, ?_⟩
  clear cx
  refine exI_mk (fun sI iI R' Φ' k => ∃ i : Nat, iI = i ∧ i ≤ st.bats.length ∧ sI = (begP st.bats i : Nat) ∧ (∀ j (hj : j < i) (hjl : j < st.bats.length), st.bats[j].no ≠ no) ∧ R' = LedO q st ++ (R ++ G) ∧ Φ' = Φ ∧ k = st.bats.length - i) ⟨⟨_, _, _, inferInstance, fun w G cx => re1 cx, 0, rfl, Nat.zero_le _, rfl, fun j hj => by omega, rfl, rfl, rfl⟩, ?_⟩
  rintro sI iI R1 Φ1 k _ ⟨i, rfl, hi, rfl, hne, rfl, rfl, rfl⟩
  refine Br.intro (fun hlt => ?_) (fun hge => fun w G2 cx => ⟨_, _, _, _, _, rfl, LedO q st ++ R, Φ1, inferInstance, cx.left.re (by simp), h0 fun b hb => ?_⟩)
  · have hlt : i < st.bats.length := by have := of_decide_eq_true hlt; omega
    obtain ⟨g, hg⟩ := hq.bpt (by omega)
    have hbe := hb.1 i hlt
    have hstp := hs.stop _ (List.getElem_mem hlt)
    have hlc := hq.lcap.1
    refine ⟨by omega, ptrK_intro g 0 hg fun w G2 cx => ⟨st.bats[i].no, st.bats[i].mark, (st.bats[i].stop : Int), by rw [Int.toNat_natCast]; exact led_bat cx hg hlt, fun _ => ?_⟩⟩
    clear cx
    refine Br.intro (fun h2 => ?_) (fun h2 => ⟨by unfold I64; omega, _, Φ1, st.bats.length - (i + 1), inferInstance, fun w G cx => cx, ⟨i + 1, rfl, hlt, by rw [begP_succ hlt], fun j hj hjl => ?_, rfl, rfl, rfl⟩, by omega⟩)
    · have h2 := of_decide_eq_true h2
      obtain ⟨L, hL⟩ : ∃ L, (st.lines.drop (begP st.bats i)).take (st.bats[i].stop - begP st.bats i) = L := ⟨_, rfl⟩
      have hLn : L.length = st.bats[i].stop - begP st.bats i := by rw [← hL, List.length_take, List.length_drop]; omega
      have hsrc := src_led (Φ := Φ1) hq hF.go (begP st.bats i) (st.bats[i].stop - begP st.bats i) (by omega)
      rw [hL] at hsrc
      refine ⟨LedO q st ++ (R ++ G), Φ1, inferInstance, fun w G cx => cx, q.lp, st.lines.length, q.lc, fun w G2 cx => ⟨_, _, _, led_cell (i := 0) cx rfl, rfl⟩, by omega, fun w G2 cx => ?_⟩
      rw [Int.toNat_natCast, Int.toNat_natCast, ← hLn]
      refine (Cloned_new (cap := q.lc - begP st.bats i) (S := (LedO q st ++ (R ++ G)) ++ G2) hsrc.app.app (by omega) (fun x hx => hs.rows x (by rw [← hL] at hx; exact List.mem_of_mem_drop (List.mem_of_mem_take hx))) cx).mono fun e w' ⟨p', c', cs', he, cx⟩ => ?_
      obtain ⟨cx1, hs1, _, e1, e2⟩ := Ctx.freeze (α := LineD) cx cx.phi.2
      obtain ⟨cs2, cx2⟩ := srcOf cx1 hs1
      exact ⟨p', L.length, c', he, LedO q st ++ (R ++ G), (fun M w => Φ1 M w ∧ SrcF p' L cs2 M w), instStableAnd Φ1 (fun M w => SrcF p' L cs2 M w), cx2.weak fun M w h => ⟨h.1.1, h.2⟩, fun w G cx => cx.fst, fun w G2 cx => ⟨_, _, _, _, _, rfl, LedO q st ++ R, (fun M w => Φ1 M w ∧ SrcF p' L cs2 M w), instStableAnd Φ1 (fun M w => SrcF p' L cs2 M w), cx.left.re (by simp), h1 i hlt L p' c' cs2 h2 (fun j hj => hne j hj _) hL.symm e1 e2 hs1.there (rows7 cx2.phi.2.2) (instStableAnd Φ1 (fun M w => SrcF p' L cs2 M w))⟩⟩
    · rcases Nat.lt_or_ge j i with h3 | h3
      · exact hne j h3 hjl
      · have : j = i := by omega
        subst this
        exact of_decide_eq_false h2
  · have hge : i = st.bats.length := by have := of_decide_eq_false hge; omega
    obtain ⟨j, hj, rfl⟩ := List.getElem_of_mem hb
    exact hne j (by omega) hj
end
end Go.Proofs.YtbkpfhhhbhaecaaGreatDoor
end

section
set_option linter.unusedVariables false
set_option linter.unusedSimpArgs false
namespace Go.Proofs.YtbkpfhhhbhaecaaGreatDoor
open Go.Vc


structure Inv2 (st : LedD) : Prop where
  num : ∀ i (h : i < st.lines.length), st.lines[i].no = i + 1
  asc : st.bats.Pairwise fun a b => a.no < b.no
  full : begP st.bats st.bats.length = st.lines.length
  seg : ∀ i (h : i < st.lines.length), ∃ j, ∃ hj : j < st.bats.length, begP st.bats j ≤ i ∧ i < st.bats[j].stop ∧ st.bats[j].no = st.lines[i].batch
  cause : ∀ x ∈ st.lines, x.cause = 0 ∨ x.cause = 1 ∨ x.cause = 2

theorem last_max {l : List BatD} (h : l.Pairwise fun a b => a.no < b.no) (d : BatD) : ∀ b ∈ l, b.no ≤ (l.getLast?.getD d).no := fun b hb => by
  have hl : 0 < l.length := List.length_pos_of_mem hb
  rw [List.getLast?_eq_getElem?, List.getElem?_eq_getElem (by omega)]
  show b.no ≤ l[l.length - 1].no
  obtain ⟨i, hi, rfl⟩ := List.getElem_of_mem hb
  rcases Nat.lt_or_ge i (l.length - 1) with h1 | h1
  · have := List.pairwise_iff_getElem.1 h i (l.length - 1) hi (by omega) h1
    omega
  · have : i = l.length - 1 := by omega
    subst this
    exact Int.le_refl _
theorem begP_app {l : List BatD} {x : BatD} {i : Nat} (h : i ≤ l.length) : begP (l ++ [x]) i = begP l i := by
  unfold begP
  by_cases h0 : i = 0
  · rw [if_pos h0, if_pos h0]
  · rw [if_neg h0, if_neg h0, List.getElem?_append_left (by omega)]

theorem Inv2.start : Inv2 ⟨[], []⟩ where
  num := fun i h => by simp at h
  asc := List.Pairwise.nil
  full := rfl
  seg := fun i h => by simp at h
  cause := fun x hx => by simp at hx
theorem Inv2.app {st : LedD} {no mark : Int} {L : List LineD} (h : Inv2 st) (ac : AccB st no mark L) : Inv2 (appP st no mark L) where
  num := fun i hi => by
    have hi' : i < (st.lines ++ L).length := hi
    show (st.lines ++ L)[i].no = i + 1
    rw [List.length_append] at hi'
    by_cases hlt : i < st.lines.length
    · rw [List.getElem_append_left hlt]; exact h.num i hlt
    · rw [List.getElem_append_right (by omega)]
      have := (ac.at (i - st.lines.length) (by omega)).gno
      rw [this]; omega
  asc := by
    show (st.bats ++ [_]).Pairwise _
    refine List.pairwise_append.2 ⟨h.asc, List.pairwise_singleton _ _, fun a ha b hb => ?_⟩
    rw [List.mem_singleton.1 hb]
    have h1 := last_max h.asc ⟨0, -1, 0⟩ a ha
    have h2 := ac.gno
    unfold lastP at h2
    show a.no < no
    omega
  full := by
    show begP (st.bats ++ [(⟨no, mark, (st.lines ++ L).length⟩ : BatD)]) (st.bats ++ [_]).length = (st.lines ++ L).length
    have e : (st.bats ++ [(⟨no, mark, (st.lines ++ L).length⟩ : BatD)]).length = st.bats.length + 1 := by simp
    rw [e, begP_succ (by rw [e]; omega), List.getElem_append_right (Nat.le_refl _)]
    simp
  seg := fun i hi => by
    have hi' : i < (st.lines ++ L).length := hi
    show ∃ j, ∃ hj : j < (st.bats ++ [(⟨no, mark, (st.lines ++ L).length⟩ : BatD)]).length, begP (st.bats ++ [(⟨no, mark, (st.lines ++ L).length⟩ : BatD)]) j ≤ i ∧ i < (st.bats ++ [(⟨no, mark, (st.lines ++ L).length⟩ : BatD)])[j].stop ∧ (st.bats ++ [(⟨no, mark, (st.lines ++ L).length⟩ : BatD)])[j].no = (st.lines ++ L)[i].batch
    by_cases hlt : i < st.lines.length
    · obtain ⟨j, hj, g1, g2, g3⟩ := h.seg i hlt
      refine ⟨j, by rw [List.length_append]; omega, ?_, ?_, ?_⟩
      · rw [begP_app (by omega)]; exact g1
      · rw [List.getElem_append_left hj]; exact g2
      · rw [List.getElem_append_left hj, List.getElem_append_left hlt]; exact g3
    · rw [List.length_append] at hi'
      refine ⟨st.bats.length, by rw [List.length_append]; simp, ?_, ?_, ?_⟩
      · rw [begP_app (Nat.le_refl _), h.full]; omega
      · rw [List.getElem_append_right (Nat.le_refl _)]
        simp only [Nat.sub_self, List.getElem_cons_zero]
        rw [List.length_append]; omega
      · rw [List.getElem_append_right (Nat.le_refl _), List.getElem_append_right (by omega)]
        simp only [Nat.sub_self, List.getElem_cons_zero]
        exact (ac.at (i - st.lines.length) (by omega)).batch.symm
  cause := fun x hx => by
    rcases List.mem_append.1 hx with hx | hx
    · exact h.cause x hx
    · obtain ⟨_, g⟩ := ac.mem hx
      exact caused_cause g.caused

structure LedI (i : Nat) (st : LedD) : Prop where
  s : LedS st
  v : Inv st
  w : Inv2 st
  n1 : st.lines.length ≤ 12 * i
  n2 : st.bats.length ≤ i
def okPush (x : PushD) : Prop := x.l.length ≤ 12 ∧ ∀ y ∈ x.l, y.row.length ≤ 13 ∧ ∀ v ∈ y.row, v.text.size ≤ 300
def stepP (st : LedD) (x : PushD) : LedD := if checkP st (fitOf st x).batch (fitOf st x).mark (fitOf st x).l = 0 then appP st (fitOf st x).batch (fitOf st x).mark (fitOf st x).l else st
theorem LedI.start : LedI 0 ⟨[], []⟩ := ⟨new_s, Inv.start, Inv2.start, by simp, by simp⟩
theorem LedI.more {i : Nat} {st : LedD} (h : LedI i st) : LedI (i + 1) st := ⟨h.s, h.v, h.w, by have := h.n1; omega, by have := h.n2; omega⟩
theorem fit_ok {st : LedD} {x : PushD} (h : okPush x) : okPush (fitOf st x) := by
  refine ⟨by have := fitP_len x (lastP st).no (lastP st).mark ((st.lines.length : Int) + 1); have := h.1; show (fitP _ _ _ _).l.length ≤ 12; omega, fun y hy => ?_⟩
  obtain ⟨z, hz, e⟩ := fitP_row _ _ _ _ y hy
  rw [e]; exact h.2 z hz
theorem fit_i64 {st : LedD} {x : PushD} (h : I64 x.batch) : I64 (fitOf st x).batch := by
  unfold fitOf fitP
  split
  · exact w64_in _
  · exact h
theorem LedI.app {i : Nat} {st : LedD} (h : LedI i st) (hi : i ≤ 1000) {X : PushD} (hx : okPush X) (h64 : I64 X.batch) (hz : checkP st X.batch X.mark X.l = 0) (hf : RowsFit X.l) : LedI (i + 1) (appP st X.batch X.mark X.l) := by
  have ac := check_ok hz
  have h1 := h.n1
  have h2 := h.n2
  have h3 := hx.1
  refine ⟨app_s h.s (fun y hy => (hx.2 y hy).1) (fun y hy => (hx.2 y hy).2) (by rw [List.length_append]; omega) (by omega), h.v.app h.s ac hf h64, h.w.app ac, ?_, ?_⟩
  · show (st.lines ++ X.l).length ≤ _
    rw [List.length_append]; omega
  · show (st.bats ++ [_]).length ≤ _
    rw [List.length_append]; exact Nat.add_le_add_right h2 1

section
variable {Φ : PW} {q : LP} {st : LedD} {W w : World} {R S G : List Own} {p r : Option Addr} {cap cap2 : Nat}

end
end Go.Proofs.YtbkpfhhhbhaecaaGreatDoor
end

section
set_option linter.unusedVariables false
set_option linter.unusedSimpArgs false
namespace Go.Proofs.YtbkpfhhhbhaecaaGreatDoor
open Go.Vc


def rdL (st : RdS) (nx no : Int) (r : List ValD) : LineD × RdS :=
  (⟨nx, no, (rdInt st).1, r, (rdInt (stepT (rdInt st).2).2).1, (rdInt (rdInt (stepT (rdInt st).2).2).2).1, (rdInt (rdInt (rdInt (stepT (rdInt st).2).2).2).2).1⟩, (rdInt (rdInt (rdInt (stepT (rdInt st).2).2).2).2).2)
def lineR (nx no : Int) (st : RdS) : Option (LineD × RdS) := (readRowP (stepT (rdInt st).2).1.data.toList).map (rdL st nx no)
attribute [irreducible] lineR
inductive Made : LedD → Prop
  | none : Made ⟨[], []⟩
  | app {st : LedD} {no mark : Int} {L : List LineD} : Made st → checkP st no mark L = 0 → Made (appP st no mark L)
theorem Made.inv {st : LedD} (h : Made st) : Inv2 st ∧ ∀ b ∈ st.bats, b.stop ≤ st.lines.length := by
  induction h with
  | none => exact ⟨Inv2.start, fun b hb => by simp at hb⟩
  | @app st no mark L h hz ih =>
    refine ⟨ih.1.app (check_ok hz), fun b hb => ?_⟩
    show b.stop ≤ (st.lines ++ L).length
    rcases List.mem_append.1 hb with hb | hb
    · have := ih.2 b hb
      rw [List.length_append]; omega
    · rw [List.mem_singleton.1 hb]
      exact Nat.le_refl _
theorem begP_le {st : LedD} (h : Made st) {i : Nat} (hi : i ≤ st.bats.length) : begP st.bats i ≤ st.lines.length := by
  unfold begP
  split
  · exact Nat.zero_le _
  · rw [List.getElem?_eq_getElem (by omega)]
    exact h.inv.2 _ (List.getElem_mem _)
theorem segL_app {st : LedD} (h : Made st) {no mark : Int} {L : List LineD} {i : Nat} (hi : i < st.bats.length) : segL (appP st no mark L) i = segL st i := by
  have e : (appP st no mark L).bats = st.bats ++ [⟨no, mark, (st.lines ++ L).length⟩] := rfl
  have e2 : (appP st no mark L).lines = st.lines ++ L := rfl
  have h1 := begP_le h (Nat.le_of_lt hi)
  have h2 := h.inv.2 _ (List.getElem_mem hi)
  unfold segL
  rw [e, e2, List.getElem?_append_left hi, List.getElem?_eq_getElem hi, begP_app (Nat.le_of_lt hi)]
  simp only
  rw [List.drop_append_of_le_length h1, List.take_append_of_le_length (by rw [List.length_drop]; omega)]
theorem segsL_app {st : LedD} (h : Made st) {no mark : Int} {L : List LineD} : ∀ {i : Nat}, i ≤ st.bats.length → segsL (appP st no mark L) i = segsL st i
  | 0, _ => rfl
  | i + 1, hi => by rw [segsL_step, segsL_step, segsL_app h (by omega), segL_app h (by omega)]
theorem segL_last {st : LedD} (h : Made st) {no mark : Int} {L : List LineD} : segL (appP st no mark L) st.bats.length = (intB no).data.toList ++ ((intB mark).data.toList ++ ((natB (L.length : Int)).data.toList ++ linesL L)) := by
  have e : (appP st no mark L).bats = st.bats ++ [⟨no, mark, (st.lines ++ L).length⟩] := rfl
  have e2 : (appP st no mark L).lines = st.lines ++ L := rfl
  have hf := h.inv.1.full
  unfold segL
  rw [e, e2, List.getElem?_append_right (Nat.le_refl _), Nat.sub_self, begP_app (Nat.le_refl _), hf]
  simp only [List.getElem?_cons_zero]
  have hl : (st.lines ++ L).length - st.lines.length = L.length := by rw [List.length_append]; omega
  rw [List.drop_left, hl, List.take_length]
  unfold batB
  simp only [hl]
  simp [ByteArray.data_append]
end Go.Proofs.YtbkpfhhhbhaecaaGreatDoor
end

section
set_option linter.unusedVariables false
set_option linter.unusedSimpArgs false
namespace Go.Proofs.YtbkpfhhhbhaecaaGreatDoor
open Go.Vc


structure RBat where
  no : Int
  mark : Int
  l : List LineD
instance : Gv RBat := Gv.via (β := Int × Int × List LineD) (fun x => (x.no, x.mark, x.l)) (fun y => ⟨y.1, y.2.1, y.2.2⟩) (fun _ => rfl)
abbrev RBat.cells (x : RBat) (p : Option Addr) (c : Nat) : List Value := [.int .i64 x.no, .int .i64 x.mark, .slice p x.l.length c]
theorem rb_cells {M : List Nat} {w : World} {cs : List Value} {x : RBat} (h : Gv.rep M w cs x) : ∃ p c, cs = x.cells p c ∧ x.l.length ≤ c ∧ c ≤ maxLen ∧ I64 x.no ∧ I64 x.mark ∧ Sl M w p x.l := by
  obtain ⟨_, _, rfl, ⟨rfl, h1⟩, _, _, rfl, ⟨rfl, h2⟩, p, c, rfl, g1, g2, g3⟩ := h
  exact ⟨p, c, rfl, g1, g2, h1, h2, g3⟩
theorem rep_rb {M : List Nat} {w : World} {x : RBat} {p : Option Addr} {c : Nat} (h1 : x.l.length ≤ c) (h2 : c ≤ maxLen) (h3 : I64 x.no) (h4 : I64 x.mark) (h5 : Sl M w p x.l) : Gv.rep M w (x.cells p c) x :=
  ⟨[_], [_, _], rfl, ⟨rfl, h3⟩, [_], [_], rfl, ⟨rfl, h4⟩, p, c, rfl, h1, h2, h5⟩

def ledOf (bs : List RBat) : LedD := bs.foldl (fun st b => appP st b.no b.mark b.l) ⟨[], []⟩
theorem ledOf_app (bs : List RBat) (b : RBat) : ledOf (bs ++ [b]) = appP (ledOf bs) b.no b.mark b.l := by unfold ledOf; rw [List.foldl_append]; rfl
theorem rsnoc {P : List RBat → Prop} (h0 : P []) (h1 : ∀ bs b, P bs → P (bs ++ [b])) : ∀ bs, P bs := fun bs => by
  rw [← List.reverse_reverse bs]
  induction bs.reverse with
  | nil => exact h0
  | cons b l ih => rw [List.reverse_cons]; exact h1 _ _ ih
theorem ledOf_lines : ∀ bs : List RBat, (ledOf bs).lines = bs.flatMap RBat.l := by
  refine rsnoc rfl fun bs b ih => ?_
  rw [ledOf_app]
  show (ledOf bs).lines ++ b.l = _
  rw [ih, List.flatMap_append]; simp
theorem ledOf_blen : ∀ bs : List RBat, (ledOf bs).bats.length = bs.length := by
  refine rsnoc rfl fun bs b ih => ?_
  rw [ledOf_app]
  show ((ledOf bs).bats ++ [_]).length = _
  rw [List.length_append, ih]; simp
theorem ledOf_bat : ∀ bs : List RBat, ∀ i (h : i < bs.length) (h2 : i < (ledOf bs).bats.length), (ledOf bs).bats[i].no = bs[i].no ∧ (ledOf bs).bats[i].mark = bs[i].mark ∧ (ledOf bs).bats[i].stop = (ledOf (bs.take (i + 1))).lines.length := by
  refine rsnoc (fun i h => by simp at h) fun bs b ih i h h2 => ?_
  have hb := ledOf_blen bs
  have e : (ledOf (bs ++ [b])).bats = (ledOf bs).bats ++ [⟨b.no, b.mark, ((ledOf bs).lines ++ b.l).length⟩] := by rw [ledOf_app]; rfl
  have hs : (ledOf (bs ++ [b])).bats[i]? = ((ledOf bs).bats ++ [⟨b.no, b.mark, ((ledOf bs).lines ++ b.l).length⟩])[i]? := by rw [e]
  rw [List.getElem?_eq_getElem h2] at hs
  rw [List.length_append, List.length_singleton] at h
  by_cases hlt : i < bs.length
  · rw [List.getElem?_append_left (by omega), List.getElem?_eq_getElem (by omega)] at hs
    have hs := Option.some.inj hs
    rw [hs, List.getElem_append_left hlt, List.take_append_of_le_length (by omega)]
    exact ih i hlt (by omega)
  · have hi : i = bs.length := by omega
    subst hi
    rw [List.getElem?_append_right (by omega), hb, Nat.sub_self] at hs
    have hs := Option.some.inj hs
    rw [hs, List.getElem_append_right (Nat.le_refl _), List.take_of_length_le (by simp), ledOf_app]
    simp only [Nat.sub_self, List.getElem_cons_zero]
    exact ⟨trivial, trivial, rfl⟩
theorem ledOf_last {bs : List RBat} (h : 0 < bs.length) : (lastP (ledOf bs)).no = (bs[bs.length - 1]'(by omega)).no ∧ (lastP (ledOf bs)).mark = (bs[bs.length - 1]'(by omega)).mark := by
  have hb := ledOf_blen bs
  have h1 := lastP_at (st := ledOf bs) (by omega)
  have h2 := ledOf_bat bs (bs.length - 1) (by omega) (by omega)
  have e : lastP (ledOf bs) = (ledOf bs).bats[bs.length - 1]'(by omega) := by
    rw [h1]
    congr 1
    omega
  rw [e]
  exact ⟨h2.1, h2.2.1⟩
theorem rflat_take {bs : List RBat} {i : Nat} (h : i < bs.length) : (bs.take (i + 1)).flatMap RBat.l = (bs.take i).flatMap RBat.l ++ bs[i].l := by
  rw [List.take_succ_eq_append_getElem h, List.flatMap_append]; simp
theorem rflat_le (bs : List RBat) (i : Nat) : ((bs.take i).flatMap RBat.l).length ≤ (bs.flatMap RBat.l).length := by
  conv => rhs; rw [← List.take_append_drop i bs, List.flatMap_append, List.length_append]
  omega
theorem rflat_one {bs : List RBat} {i : Nat} (h : i < bs.length) : bs[i].l.length ≤ (bs.flatMap RBat.l).length := by
  have h1 := rflat_le bs (i + 1)
  rw [rflat_take h, List.length_append] at h1
  omega

structure RP where
  rb : Nat
  p : Option Addr
  c : Nat
  cs : List Value
abbrev RefO (q : RP) (bs : List RBat) : List Own := [.blk q.rb [.slice q.p bs.length q.c] 59, .buf q.p bs.length q.c q.cs 61 3]
abbrev RF (q : RP) (bs : List RBat) : PW := fun M w => Elems M w q.cs bs
structure RefQ (q : RP) (bs : List RBat) : Prop where
  ptr : 0 < bs.length → ∃ g, q.p = some ⟨g, 0, none⟩
  cells : ∀ i (h : i < bs.length), ∃ p c, (q.cs.drop (i * 3)).take 3 = bs[i].cells p c ∧ bs[i].l.length ≤ c ∧ c ≤ maxLen ∧ I64 bs[i].no ∧ I64 bs[i].mark
  there : ∀ i (h : i < bs.length) p c, (q.cs.drop (i * 3)).take 3 = bs[i].cells p c → There p bs[i].l.length
  n : bs.length ≤ 100000
  lines : (bs.flatMap RBat.l).length ≤ 150000
abbrev rled (q : RP) : Value := .pointer (some ⟨q.rb, 0, none⟩)

section
variable {Φ : PW} {q : RP} {bs : List RBat} {W w : World} {R S G Q : List Own}

theorem ref_cell (cx : Ctx W w ((RefO q bs ++ R) ++ G) Φ) : w.cell? ⟨q.rb, 0, none⟩ = some (.slice q.p bs.length q.c) := cx.get 0 rfl rfl
theorem ref_row (cx : Ctx W w ((RefO q bs ++ R) ++ G) Φ) {g i : Nat} (hp : q.p = some ⟨g, 0, none⟩) {x : RBat} {p : Option Addr} {c : Nat} (h : (q.cs.drop (i * 3)).take 3 = x.cells p c) : RowAt w g (0 + i * 3) (x.cells p c) := by
  rw [Nat.zero_add]
  exact cx.bufRow 1 rfl hp (rows_of h)
theorem ref_sl {M : List Nat} (h : Elems M w q.cs bs) {i : Nat} (hi : i < bs.length) {p : Option Addr} {c : Nat} (hc : (q.cs.drop (i * 3)).take 3 = bs[i].cells p c) : Sl M w p bs[i].l := by
  have := h.2 i hi
  rw [show (Gv.ty RBat).size = 3 from rfl, hc] at this
  obtain ⟨p', c', e, _, _, _, _, h1⟩ := rb_cells this
  simp only [RBat.cells, List.cons.injEq, Value.slice.injEq] at e
  rw [e.2.2.1.1]
  exact h1

theorem _root_.Go.Vc.GivesQSl.tol {α : Type} [Gv α] {P : Program} {f : FuncId} {args : Array Value} {l : List α} [Stable Φ] (h : GivesQSl Q Φ P f args l) (c : Ctx W w ((Q ++ R) ++ G) Φ) {K : Option Addr → Nat → Nat → List Own → PW → Prop}
    (hk : ∀ p cap, K p l.length cap (Q ++ R) Φ) : Calls P f args w fun e w' => ∃ p n c, e = .returned (.slice p n c) ∧ ∃ R' Φ', Stable Φ' ∧ Ctx W w' (R' ++ G) Φ' ∧ K p n c R' Φ' :=
  (h.go W w (R ++ G) c.inl).mono fun e w' ⟨p, cap, he, h1, h2, c'⟩ => ⟨p, _, cap, he, Q ++ R, Φ, inferInstance, (c'.weak fun M w h => h.1).outl, hk p cap⟩
theorem _root_.Go.Vc.GivesQSl.tol1 {α : Type} [Gv α] {P : Program} {f : FuncId} {args : Array Value} {l : List α} [Stable Φ] {B : Own} (h : GivesQSl Q Φ P f args l) (c : Ctx W w ((B :: (Q ++ R)) ++ G) Φ) {K : Option Addr → Nat → Nat → List Own → PW → Prop}
    (hk : ∀ p cap, K p l.length cap (B :: (Q ++ R)) Φ) : Calls P f args w fun e w' => ∃ p n c, e = .returned (.slice p n c) ∧ ∃ R' Φ', Stable Φ' ∧ Ctx W w' (R' ++ G) Φ' ∧ K p n c R' Φ' :=
  (h.go W w (B :: (R ++ G)) (c.perm perm_in)).mono fun e w' ⟨p, cap, he, h1, h2, c'⟩ => ⟨p, _, cap, he, B :: (Q ++ R), Φ, inferInstance, (c'.weak fun M w h => h.1).perm perm_in.symm, hk p cap⟩

theorem RNew_to [Stable Φ] (c : Ctx W w (R ++ G) Φ) {K : Option Addr → List Own → PW → Prop}
    (hk : ∀ q : RP, RefQ q [] → Stable (fun M w => Φ M w ∧ RF q [] M w) → K (some ⟨q.rb, 0, none⟩) (RefO q [] ++ R) (fun M w => Φ M w ∧ RF q [] M w)) :
    Calls Tryz.prog F.errataref41_New #[] w fun e w' => ∃ p, e = .returned (.pointer p) ∧ ∃ R' Φ', Stable Φ' ∧ Ctx W w' (R' ++ G) Φ' ∧ K p R' Φ' := by
  refine (Berrataref41_New_run (R := R ++ G) (J := fun v w' => ∃ p, v = .pointer p ∧ ∃ R' Φ', Stable Φ' ∧ Ctx W w' (R' ++ G) Φ' ∧ K p R' Φ') c ?_).mono fun e w' ⟨v, he, p, hv, rest⟩ => ⟨p, by rw [he, hv], rest⟩
  intro k0 w2 G2 cx
  have cx := Ctx.left (S := .blk k0 _ 59 :: (R ++ G)) cx
  have c2 := cx.nobuf 61 3
  have st : Stable (fun M w => Φ M w ∧ RF ⟨k0, none, 0, []⟩ [] M w) := instStableAnd Φ (fun M w => RF ⟨k0, none, 0, []⟩ [] M w)
  exact ⟨_, rfl, RefO ⟨k0, none, 0, []⟩ [] ++ R, _, st, (c2.swap.weak fun M w h => (⟨h, Elems.nil⟩ : Φ M w ∧ RF ⟨k0, none, 0, []⟩ [] M w)).re (by simp), hk ⟨k0, none, 0, []⟩ ⟨fun h => by simp at h, fun i h => by simp at h, fun i h => by simp at h, by simp, by simp⟩ st⟩

theorem RLast_q [Stable Φ] (hq : RefQ q bs) : GivesQ (RefO q bs) Φ Tryz.prog F.errataref41_Ledger_Last #[rled q] (.int .i64 (lastP (ledOf bs)).no) := by
  have hn := hq.n
  refine gives_q (Berrataref41_Ledger_Last_run q.rb 0) fun W R => fun w G cx => ⟨_, _, _, ref_cell cx, Br.intro (fun h => fun w G cx => ⟨?_, cx.left⟩) (fun h => fun w G cx => ⟨_, _, _, ref_cell cx, _, _, _, ref_cell cx, by unfold I64; omega, ?_⟩)⟩
  · have h := of_decide_eq_true h
    have : bs = [] := List.eq_nil_of_length_eq_zero (by omega)
    subst this; rfl
  · have h := of_decide_eq_false h
    obtain ⟨g, hg⟩ := hq.ptr (by omega)
    obtain ⟨p, c, he, _⟩ := hq.cells (bs.length - 1) (by omega)
    rw [(ledOf_last (bs := bs) (by omega)).1]
    exact ⟨by omega, ptrK_intro g 0 hg ⟨_, by rw [show ((bs.length : Int) - 1).toNat = bs.length - 1 by omega]; exact ref_row cx hg he 0 (by simp), fun w G cx => ⟨rfl, cx.left⟩⟩⟩
theorem RMark_q [Stable Φ] (hq : RefQ q bs) : GivesQ (RefO q bs) Φ Tryz.prog F.errataref41_Ledger_Mark #[rled q] (.int .i64 (lastP (ledOf bs)).mark) := by
  have hn := hq.n
  refine gives_q (Berrataref41_Ledger_Mark_run q.rb 0) fun W R => fun w G cx => ⟨_, _, _, ref_cell cx, Br.intro (fun h => fun w G cx => ⟨?_, cx.left⟩) (fun h => fun w G cx => ⟨_, _, _, ref_cell cx, _, _, _, ref_cell cx, by unfold I64; omega, ?_⟩)⟩
  · have h := of_decide_eq_true h
    have : bs = [] := List.eq_nil_of_length_eq_zero (by omega)
    subst this; rfl
  · have h := of_decide_eq_false h
    obtain ⟨g, hg⟩ := hq.ptr (by omega)
    obtain ⟨p, c, he, _⟩ := hq.cells (bs.length - 1) (by omega)
    rw [(ledOf_last (bs := bs) (by omega)).2]
    exact ⟨by omega, ptrK_intro g 0 hg ⟨_, by rw [show ((bs.length : Int) - 1).toNat = bs.length - 1 by omega]; exact ref_row cx hg he 1 (by simp), fun w G cx => ⟨rfl, cx.left⟩⟩⟩

set_option maxHeartbeats 1000000 in
theorem RLines_q [Stable Φ] (hq : RefQ q bs) [hF : Has Φ (RF q bs)] : GivesQSl (RefO q bs) Φ Tryz.prog F.errataref41_Ledger_Lines #[rled q] (bs.flatMap RBat.l) := by
  have hn := hq.n
  have hl := hq.lines
  refine gives_qsl (Berrataref41_Ledger_Lines_run q.rb 0) fun W R => ?_
  refine exI_mk (fun op on oc iI R' Φ' m => ∃ i ds, iI = (i : Nat) ∧ i ≤ bs.length ∧ on = ((bs.take i).flatMap RBat.l).length ∧ R' = .buf op on oc ds 51 7 :: (RefO q bs ++ R) ∧ Φ' = (fun M w => Φ M w ∧ Elems M w ds ((bs.take i).flatMap RBat.l)) ∧ m = bs.length - i) ⟨⟨.buf none 0 0 [] 51 7 :: (RefO q bs ++ R), (fun M w => Φ M w ∧ Elems M w [] ([] : List LineD)), _, inferInstance, fun w G cx => ((cx.nobuf 51 7).weak fun M w h => ⟨h, Elems.nil⟩), 0, [], rfl, Nat.zero_le _, rfl, rfl, rfl, rfl⟩, ?_⟩
  rintro op on oc iI R1 Φ1 m _ ⟨i, ds, rfl, hi, rfl, rfl, rfl, rfl⟩
  have cell : ∀ {w : World} {G : List Own} {Ψ : PW}, Ctx W w (.buf op ((bs.take i).flatMap RBat.l).length oc ds 51 7 :: (RefO q bs ++ R) ++ G) Ψ → w.cell? ⟨q.rb, 0, none⟩ = some (.slice q.p bs.length q.c) := fun cx => cx.get 1 rfl rfl
  refine fun w G cx => ⟨_, _, _, cell cx, Br.intro (fun hlt => ?_) (fun hge => fun w G cx => ?_)⟩
  · have hlt : i < bs.length := by have := of_decide_eq_true hlt; omega
    obtain ⟨g, hg⟩ := hq.ptr (by omega)
    obtain ⟨p, c, he, e1, e2, _⟩ := hq.cells i hlt
    have hft := rflat_take hlt
    have hle := rflat_le bs (i + 1)
    rw [hft, List.length_append] at hle
    refine fun w G cx => ⟨_, _, _, cell cx, by omega, ptrK_intro g 0 hg fun w G cx => ⟨p, bs[i].l.length, c, ?_, fun w G cx => ?_⟩⟩
    · rw [Int.toNat_natCast, Nat.zero_add]
      exact cx.bufRow 2 rfl hg (rows_of (vs := bs[i].cells p c) he) 2 (by simp)
    · obtain ⟨p', c', w', news, hrun, cx'⟩ := Ctx.appAny (P := Tryz.prog) (ts := 31) (ty := 31) (kb := #[false, false]) (bytes := 72) (c2 := c) (l := bs[i].l) (q := p) cx (by kernel_rfl) line_one (fun M w h => ref_sl (hF.go M w h.1) hlt he) (by omega) (by omega)
      rw [← List.length_append, ← hft] at hrun cx'
      have hst : Stable (fun M w => Φ M w ∧ Elems M w (ds ++ news) ((bs.take (i + 1)).flatMap RBat.l)) := inferInstance
      exact ⟨p', _, c', w', hrun, .buf p' ((bs.take (i + 1)).flatMap RBat.l).length c' (ds ++ news) 51 7 :: (RefO q bs ++ R), _, hst, cx'.weak fun M w h => ⟨h.1.1, by rw [hft]; exact h.1.2.append h.2⟩, by unfold I64; omega, _, _, bs.length - (i + 1), hst, fun w G cx => cx, ⟨i + 1, _, by omega, hlt, rfl, rfl, rfl, rfl⟩, by omega⟩
  · have hge : i = bs.length := by have := of_decide_eq_false hge; omega
    subst hge
    rw [List.take_length] at cx ⊢
    obtain ⟨cx3, hs, _, k1, k2⟩ := Ctx.freeze (α := LineD) cx.left cx.left.phi.2
    exact ⟨op, oc, rfl, k1, k2, (cx3.add hs).weak fun M w h => ⟨h.1.1, h.2⟩⟩
end
end Go.Proofs.YtbkpfhhhbhaecaaGreatDoor
end

section
namespace Go.Proofs.YtbkpfhhhbhaecaaGreatDoor
set_option linter.unusedVariables false
set_option linter.unusedSimpArgs false
set_option maxRecDepth 100000
open Go.Vc

-- loop at region 29: 24 found, 25 i; blocks 
-- loop at region 9: 12 i; blocks 
-- cut 12: 13 x; blocks 
-- cut 26: ; blocks 
-- known blocks: 18 x
def Cerratalaw41_LedgerTells (lP : Option Addr) (lN lC : Nat) (time : Int) (rowP : Option Addr) (rowN rowC : Nat) (no : Int) (W : World) (R : List Own) (Φ : PW) (J : Value → World → Prop) : Prop :=
  ∀ (w0 : World) (R1 : List Own), Ctx W w0 (R ++ R1) Φ → Calls Tryz.prog F.erratalaw41_small #[] w0 fun (e2 : Ending) (w3 : World) => ∃ (c4 : Bool), e2 = Ending.returned (Value.bool c4) ∧ ∃
  (R5 : List Own), ∃ (Φ6 : PW), Stable Φ6 ∧ Ctx W w3 (R5 ++ R1) Φ6 ∧ ∀ (w7 : World) (R8 : List Own), Ctx W w7 (R5 ++ R8) Φ6 → Calls Tryz.prog F.erratalaw41_few #[Value.slice lP lN lC,
  Value.int IntKind.i64 25] w7 fun (e9 : Ending) (w10 : World) => ∃ (c11 : Bool), e9 = Ending.returned (Value.bool c11) ∧ ∃ (R12 : List Own), ∃ (Φ13 : PW), Stable Φ13 ∧ Ctx W w10 (R12 ++ R8)
  Φ13 ∧ Br (!c11) (∀ (w14 : World) (R15 : List Own), Ctx W w14 (R12 ++ R15) Φ13 → J (Value.bool c4) w14) (∀ (w16 : World) (R17 : List Own), Ctx W w16 (R12 ++ R17) Φ13 → Calls Tryz.prog
  F.errataref03_Short #[Value.slice rowP rowN rowC, Value.int IntKind.i64 13] w16 fun (e18 : Ending) (w19 : World) => ∃ (c20 : Bool), e18 = Ending.returned (Value.bool c20) ∧ ∃ (R21 : List
  Own), ∃ (Φ22 : PW), Stable Φ22 ∧ Ctx W w19 (R21 ++ R17) Φ22 ∧ Br (!c20) (∀ (w23 : World) (R24 : List Own), Ctx W w23 (R21 ++ R24) Φ22 → J (Value.bool c4) w23) (∀ (w25 : World) (R26 : List
  Own), Ctx W w25 (R21 ++ R26) Φ22 → Calls Tryz.prog F.ledger_New #[] w25 fun (e27 : Ending) (w28 : World) => ∃ (p29 : Option Addr), e27 = Ending.returned (Value.pointer p29) ∧ ∃ (R30 : List
  Own), ∃ (Φ31 : PW), Stable Φ31 ∧ Ctx W w28 (R30 ++ R26) Φ31 ∧ ∀ (w32 : World) (R33 : List Own), Ctx W w32 (R30 ++ R33) Φ31 → Calls Tryz.prog F.errataref41_New #[] w32 fun (e34 : Ending)
  (w35 : World) => ∃ (p36 : Option Addr), e34 = Ending.returned (Value.pointer p36) ∧ ∃ (R37 : List Own), ∃ (Φ38 : PW), Stable Φ38 ∧ Ctx W w35 (R37 ++ R33) Φ38 ∧ Br p29.isNone (∀ (w39 :
  World) (R40 : List Own), Ctx W w39 (R37 ++ R40) Φ38 → J (Value.bool false) w39) (exI fun (I41 : Int → List Own → PW → Nat → Prop) => (∃ (R42 : List Own), ∃ (Φ43 : PW), ∃ (k44 : Nat), Stable
  Φ43 ∧ (∀ (w45 : World) (R46 : List Own), Ctx W w45 (R37 ++ R46) Φ38 → Ctx W w45 (R42 ++ R46) Φ43) ∧ I41 0 R42 Φ43 k44) ∧ ∀ (n47 : Int) (R48 : List Own) (I49 : List Nat → World → Prop) (k50
  : Nat), Stable I49 → I41 n47 R48 I49 k50 → Br (decide (n47 < (↑lN : Int))) (exI fun (I51 : Nat → Nat → List Own → PW → Prop) => (∃ (R52 : List Own), ∃ (Φ53 : PW), Stable Φ53 ∧ (∀ (w54 :
  World) (R55 : List Own), Ctx W w54 (R48 ++ R55) I49 → Ctx W w54 (R52 ++ R55) Φ53) ∧ (0 ≤ n47 ∧ n47 < (↑lN : Int)) ∧ ptrK none lP fun (k56 k57 : Nat) => ∃ (n58 : Int), ∃ (n59 : Int), ∃ (p60
  : Option Addr), ∃ (k61 : Nat), ∃ (k62 : Nat), ∃ (c63 : Bool), (∀ (w64 : World) (R65 : List Own), Ctx W w64 (R52 ++ R65) Φ53 → ∃ (n66 : Int), ∃ (n67 : Int), ∃ (p68 : Option Addr), ∃ (k69 :
  Nat), ∃ (k70 : Nat), ∃ (c71 : Bool), RowAt w64 k56 (k57 + n47.toNat * 4) [Value.int IntKind.i64 n66, Value.int IntKind.i64 n67, Value.slice p68 k69 k70, Value.bool c71] ∧ Value.agg
  #[Value.int IntKind.i64 n66, Value.int IntKind.i64 n67, Value.slice p68 k69 k70, Value.bool c71] = Value.agg #[Value.int IntKind.i64 n58, Value.int IntKind.i64 n59, Value.slice p60 k61 k62,
  Value.bool c63]) ∧ (∀ (w72 : World) (R73 : List Own), Ctx W w72 (R48 ++ R73) I49 → Calls Tryz.prog F.errataref41_Ledger_Last #[Value.pointer p36] w72 fun (e74 : Ending) (w75 : World) => ∃
  (n76 : Int), e74 = Ending.returned (Value.int IntKind.i64 n76) ∧ ∃ (R77 : List Own), ∃ (Φ78 : PW), Stable Φ78 ∧ Ctx W w75 (R77 ++ R73) Φ78 ∧ (∀ (w79 : World) (R80 : List Own), Ctx W w79
  (R77 ++ R80) Φ78 → Ctx W w79 (R52 ++ R80) Φ53) ∧ (∀ (w81 : World) (R82 : List Own), Ctx W w81 (R77 ++ R82) Φ78 → Calls Tryz.prog F.errataref41_Ledger_Mark #[Value.pointer p36] w81 fun (e83
  : Ending) (w84 : World) => ∃ (n85 : Int), e83 = Ending.returned (Value.int IntKind.i64 n85) ∧ ∃ (R86 : List Own), ∃ (Φ87 : PW), Stable Φ87 ∧ Ctx W w84 (R86 ++ R82) Φ87 ∧ (∀ (w88 : World)
  (R89 : List Own), Ctx W w88 (R86 ++ R89) Φ87 → Ctx W w88 (R52 ++ R89) Φ53) ∧ (∀ (w90 : World) (R91 : List Own), Ctx W w90 (R86 ++ R91) Φ87 → Calls Tryz.prog F.errataref41_Ledger_Lines
  #[Value.pointer p36] w90 fun (e92 : Ending) (w93 : World) => ∃ (p94 : Option Addr), ∃ (k95 : Nat), ∃ (k96 : Nat), e92 = Ending.returned (Value.slice p94 k95 k96) ∧ ∃ (R97 : List Own), ∃
  (Φ98 : PW), Stable Φ98 ∧ Ctx W w93 (R97 ++ R91) Φ98 ∧ (∀ (w99 : World) (R100 : List Own), Ctx W w99 (R97 ++ R100) Φ98 → Ctx W w99 (R52 ++ R100) Φ53) ∧ I64 ((↑k95 : Int) + 1) ∧ (∀ (w101 :
  World) (R102 : List Own), Ctx W w101 (R97 ++ R102) Φ98 → Calls Tryz.prog F.erratalaw41_fitted #[Value.agg #[Value.int IntKind.i64 n58, Value.int IntKind.i64 n59, Value.slice p60 k61 k62,
  Value.bool c63], Value.int IntKind.i64 n76, Value.int IntKind.i64 n85, Value.int IntKind.i64 ((↑k95 : Int) + 1)] w101 fun (e103 : Ending) (w104 : World) => ∃ (n105 : Int), ∃ (n106 : Int), ∃
  (p107 : Option Addr), ∃ (k108 : Nat), ∃ (k109 : Nat), ∃ (c110 : Bool), e103 = Ending.returned (Value.agg #[Value.int IntKind.i64 n105, Value.int IntKind.i64 n106, Value.slice p107 k108
  k109, Value.bool c110]) ∧ ∃ (R111 : List Own), ∃ (Φ112 : PW), Stable Φ112 ∧ Ctx W w104 (R111 ++ R102) Φ112 ∧ (∀ (w113 : World) (R114 : List Own), Ctx W w113 (R111 ++ R114) Φ112 → Ctx W w113
  (R52 ++ R114) Φ53) ∧ (∀ (k115 : Nat), (∀ (w116 : World) (R117 : List Own), Ctx W w116 (Own.blk k115 [Value.int IntKind.i64 0, Value.int IntKind.i64 0, Value.slice none 0 0, Value.bool
  false] 33 :: R111 ++ R117) Φ112 → Ctx W w116 (R52 ++ R117) Φ53) ∧ ∀ (w118 : World) (R119 : List Own), Ctx W w118 (Own.blk k115 [Value.int IntKind.i64 0, Value.int IntKind.i64 0, Value.slice
  none 0 0, Value.bool false] 33 :: R111 ++ R119) Φ112 → CanWrite w118 k115 0 4 ∧ ∀ (w120 : World), w120 = w118.setCells k115 0 [Value.int IntKind.i64 n105, Value.int IntKind.i64 n106,
  Value.slice p107 k108 k109, Value.bool c110] → ∃ (R121 : List Own), ∃ (Φ122 : PW), Stable Φ122 ∧ Ctx W w120 (R121 ++ R119) Φ122 ∧ ∃ (R123 : List Own), ∃ (Φ124 : PW), Stable Φ124 ∧ (∀ (w125
  : World) (R126 : List Own), Ctx W w125 (R121 ++ R126) Φ122 → Ctx W w125 (R123 ++ R126) Φ124) ∧ I51 k115 0 R123 Φ124) ∧ True) ∧ (∀ (k127 : Nat), (∀ (w128 : World) (R129 : List Own), Ctx W
  w128 (Own.blk k127 [Value.int IntKind.i64 0, Value.int IntKind.i64 0, Value.slice none 0 0, Value.bool false] 33 :: R97 ++ R129) Φ98 → Ctx W w128 (R52 ++ R129) Φ53) ∧ (∀ (w130 : World)
  (R131 : List Own), Ctx W w130 (Own.blk k127 [Value.int IntKind.i64 0, Value.int IntKind.i64 0, Value.slice none 0 0, Value.bool false] 33 :: R97 ++ R131) Φ98 → Calls Tryz.prog
  F.erratalaw41_fitted #[Value.agg #[Value.int IntKind.i64 n58, Value.int IntKind.i64 n59, Value.slice p60 k61 k62, Value.bool c63], Value.int IntKind.i64 n76, Value.int IntKind.i64 n85,
  Value.int IntKind.i64 ((↑k95 : Int) + 1)] w130 fun (e132 : Ending) (w133 : World) => ∃ (n134 : Int), ∃ (n135 : Int), ∃ (p136 : Option Addr), ∃ (k137 : Nat), ∃ (k138 : Nat), ∃ (c139 : Bool),
  e132 = Ending.returned (Value.agg #[Value.int IntKind.i64 n134, Value.int IntKind.i64 n135, Value.slice p136 k137 k138, Value.bool c139]) ∧ ∃ (R140 : List Own), ∃ (Φ141 : PW), Stable Φ141 ∧
  Ctx W w133 (R140 ++ R131) Φ141 ∧ (∀ (w142 : World) (R143 : List Own), Ctx W w142 (R140 ++ R143) Φ141 → Ctx W w142 (R52 ++ R143) Φ53) ∧ ∀ (w144 : World) (R145 : List Own), Ctx W w144 (R140
  ++ R145) Φ141 → CanWrite w144 k127 0 4 ∧ ∀ (w146 : World), w146 = w144.setCells k127 0 [Value.int IntKind.i64 n134, Value.int IntKind.i64 n135, Value.slice p136 k137 k138, Value.bool c139]
  → ∃ (R147 : List Own), ∃ (Φ148 : PW), Stable Φ148 ∧ Ctx W w146 (R147 ++ R145) Φ148 ∧ ∃ (R149 : List Own), ∃ (Φ150 : PW), Stable Φ150 ∧ (∀ (w151 : World) (R152 : List Own), Ctx W w151 (R147
  ++ R152) Φ148 → Ctx W w151 (R149 ++ R152) Φ150) ∧ I51 k127 0 R149 Φ150) ∧ True) ∧ True) ∧ (∀ (k153 : Nat), (∀ (w154 : World) (R155 : List Own), Ctx W w154 (Own.blk k153 [Value.int
  IntKind.i64 0, Value.int IntKind.i64 0, Value.slice none 0 0, Value.bool false] 33 :: R86 ++ R155) Φ87 → Ctx W w154 (R52 ++ R155) Φ53) ∧ (∀ (w156 : World) (R157 : List Own), Ctx W w156
  (Own.blk k153 [Value.int IntKind.i64 0, Value.int IntKind.i64 0, Value.slice none 0 0, Value.bool false] 33 :: R86 ++ R157) Φ87 → Calls Tryz.prog F.errataref41_Ledger_Lines #[Value.pointer
  p36] w156 fun (e158 : Ending) (w159 : World) => ∃ (p160 : Option Addr), ∃ (k161 : Nat), ∃ (k162 : Nat), e158 = Ending.returned (Value.slice p160 k161 k162) ∧ ∃ (R163 : List Own), ∃ (Φ164 :
  PW), Stable Φ164 ∧ Ctx W w159 (R163 ++ R157) Φ164 ∧ (∀ (w165 : World) (R166 : List Own), Ctx W w165 (R163 ++ R166) Φ164 → Ctx W w165 (R52 ++ R166) Φ53) ∧ I64 ((↑k161 : Int) + 1) ∧ (∀ (w167
  : World) (R168 : List Own), Ctx W w167 (R163 ++ R168) Φ164 → Calls Tryz.prog F.erratalaw41_fitted #[Value.agg #[Value.int IntKind.i64 n58, Value.int IntKind.i64 n59, Value.slice p60 k61
  k62, Value.bool c63], Value.int IntKind.i64 n76, Value.int IntKind.i64 n85, Value.int IntKind.i64 ((↑k161 : Int) + 1)] w167 fun (e169 : Ending) (w170 : World) => ∃ (n171 : Int), ∃ (n172 :
  Int), ∃ (p173 : Option Addr), ∃ (k174 : Nat), ∃ (k175 : Nat), ∃ (c176 : Bool), e169 = Ending.returned (Value.agg #[Value.int IntKind.i64 n171, Value.int IntKind.i64 n172, Value.slice p173
  k174 k175, Value.bool c176]) ∧ ∃ (R177 : List Own), ∃ (Φ178 : PW), Stable Φ178 ∧ Ctx W w170 (R177 ++ R168) Φ178 ∧ (∀ (w179 : World) (R180 : List Own), Ctx W w179 (R177 ++ R180) Φ178 → Ctx W
  w179 (R52 ++ R180) Φ53) ∧ ∀ (w181 : World) (R182 : List Own), Ctx W w181 (R177 ++ R182) Φ178 → CanWrite w181 k153 0 4 ∧ ∀ (w183 : World), w183 = w181.setCells k153 0 [Value.int IntKind.i64
  n171, Value.int IntKind.i64 n172, Value.slice p173 k174 k175, Value.bool c176] → ∃ (R184 : List Own), ∃ (Φ185 : PW), Stable Φ185 ∧ Ctx W w183 (R184 ++ R182) Φ185 ∧ ∃ (R186 : List Own), ∃
  (Φ187 : PW), Stable Φ187 ∧ (∀ (w188 : World) (R189 : List Own), Ctx W w188 (R184 ++ R189) Φ185 → Ctx W w188 (R186 ++ R189) Φ187) ∧ I51 k153 0 R186 Φ187) ∧ True) ∧ True) ∧ True) ∧ (∀ (k190 :
  Nat), (∀ (w191 : World) (R192 : List Own), Ctx W w191 (Own.blk k190 [Value.int IntKind.i64 0, Value.int IntKind.i64 0, Value.slice none 0 0, Value.bool false] 33 :: R77 ++ R192) Φ78 → Ctx W
  w191 (R52 ++ R192) Φ53) ∧ (∀ (w193 : World) (R194 : List Own), Ctx W w193 (Own.blk k190 [Value.int IntKind.i64 0, Value.int IntKind.i64 0, Value.slice none 0 0, Value.bool false] 33 :: R77
  ++ R194) Φ78 → Calls Tryz.prog F.errataref41_Ledger_Mark #[Value.pointer p36] w193 fun (e195 : Ending) (w196 : World) => ∃ (n197 : Int), e195 = Ending.returned (Value.int IntKind.i64 n197)
  ∧ ∃ (R198 : List Own), ∃ (Φ199 : PW), Stable Φ199 ∧ Ctx W w196 (R198 ++ R194) Φ199 ∧ (∀ (w200 : World) (R201 : List Own), Ctx W w200 (R198 ++ R201) Φ199 → Ctx W w200 (R52 ++ R201) Φ53) ∧ (∀
  (w202 : World) (R203 : List Own), Ctx W w202 (R198 ++ R203) Φ199 → Calls Tryz.prog F.errataref41_Ledger_Lines #[Value.pointer p36] w202 fun (e204 : Ending) (w205 : World) => ∃ (p206 :
  Option Addr), ∃ (k207 : Nat), ∃ (k208 : Nat), e204 = Ending.returned (Value.slice p206 k207 k208) ∧ ∃ (R209 : List Own), ∃ (Φ210 : PW), Stable Φ210 ∧ Ctx W w205 (R209 ++ R203) Φ210 ∧ (∀
  (w211 : World) (R212 : List Own), Ctx W w211 (R209 ++ R212) Φ210 → Ctx W w211 (R52 ++ R212) Φ53) ∧ I64 ((↑k207 : Int) + 1) ∧ (∀ (w213 : World) (R214 : List Own), Ctx W w213 (R209 ++ R214)
  Φ210 → Calls Tryz.prog F.erratalaw41_fitted #[Value.agg #[Value.int IntKind.i64 n58, Value.int IntKind.i64 n59, Value.slice p60 k61 k62, Value.bool c63], Value.int IntKind.i64 n76,
  Value.int IntKind.i64 n197, Value.int IntKind.i64 ((↑k207 : Int) + 1)] w213 fun (e215 : Ending) (w216 : World) => ∃ (n217 : Int), ∃ (n218 : Int), ∃ (p219 : Option Addr), ∃ (k220 : Nat), ∃
  (k221 : Nat), ∃ (c222 : Bool), e215 = Ending.returned (Value.agg #[Value.int IntKind.i64 n217, Value.int IntKind.i64 n218, Value.slice p219 k220 k221, Value.bool c222]) ∧ ∃ (R223 : List
  Own), ∃ (Φ224 : PW), Stable Φ224 ∧ Ctx W w216 (R223 ++ R214) Φ224 ∧ (∀ (w225 : World) (R226 : List Own), Ctx W w225 (R223 ++ R226) Φ224 → Ctx W w225 (R52 ++ R226) Φ53) ∧ ∀ (w227 : World)
  (R228 : List Own), Ctx W w227 (R223 ++ R228) Φ224 → CanWrite w227 k190 0 4 ∧ ∀ (w229 : World), w229 = w227.setCells k190 0 [Value.int IntKind.i64 n217, Value.int IntKind.i64 n218,
  Value.slice p219 k220 k221, Value.bool c222] → ∃ (R230 : List Own), ∃ (Φ231 : PW), Stable Φ231 ∧ Ctx W w229 (R230 ++ R228) Φ231 ∧ ∃ (R232 : List Own), ∃ (Φ233 : PW), Stable Φ233 ∧ (∀ (w234
  : World) (R235 : List Own), Ctx W w234 (R230 ++ R235) Φ231 → Ctx W w234 (R232 ++ R235) Φ233) ∧ I51 k190 0 R232 Φ233) ∧ True) ∧ True) ∧ True) ∧ True) ∧ (∀ (k236 : Nat), (∀ (w237 : World)
  (R238 : List Own), Ctx W w237 (Own.blk k236 [Value.int IntKind.i64 0, Value.int IntKind.i64 0, Value.slice none 0 0, Value.bool false] 33 :: R48 ++ R238) I49 → Ctx W w237 (R52 ++ R238) Φ53)
  ∧ (∀ (w239 : World) (R240 : List Own), Ctx W w239 (Own.blk k236 [Value.int IntKind.i64 0, Value.int IntKind.i64 0, Value.slice none 0 0, Value.bool false] 33 :: R48 ++ R240) I49 → Calls
  Tryz.prog F.errataref41_Ledger_Last #[Value.pointer p36] w239 fun (e241 : Ending) (w242 : World) => ∃ (n243 : Int), e241 = Ending.returned (Value.int IntKind.i64 n243) ∧ ∃ (R244 : List
  Own), ∃ (Φ245 : PW), Stable Φ245 ∧ Ctx W w242 (R244 ++ R240) Φ245 ∧ (∀ (w246 : World) (R247 : List Own), Ctx W w246 (R244 ++ R247) Φ245 → Ctx W w246 (R52 ++ R247) Φ53) ∧ (∀ (w248 : World)
  (R249 : List Own), Ctx W w248 (R244 ++ R249) Φ245 → Calls Tryz.prog F.errataref41_Ledger_Mark #[Value.pointer p36] w248 fun (e250 : Ending) (w251 : World) => ∃ (n252 : Int), e250 =
  Ending.returned (Value.int IntKind.i64 n252) ∧ ∃ (R253 : List Own), ∃ (Φ254 : PW), Stable Φ254 ∧ Ctx W w251 (R253 ++ R249) Φ254 ∧ (∀ (w255 : World) (R256 : List Own), Ctx W w255 (R253 ++
  R256) Φ254 → Ctx W w255 (R52 ++ R256) Φ53) ∧ (∀ (w257 : World) (R258 : List Own), Ctx W w257 (R253 ++ R258) Φ254 → Calls Tryz.prog F.errataref41_Ledger_Lines #[Value.pointer p36] w257 fun
  (e259 : Ending) (w260 : World) => ∃ (p261 : Option Addr), ∃ (k262 : Nat), ∃ (k263 : Nat), e259 = Ending.returned (Value.slice p261 k262 k263) ∧ ∃ (R264 : List Own), ∃ (Φ265 : PW), Stable
  Φ265 ∧ Ctx W w260 (R264 ++ R258) Φ265 ∧ (∀ (w266 : World) (R267 : List Own), Ctx W w266 (R264 ++ R267) Φ265 → Ctx W w266 (R52 ++ R267) Φ53) ∧ I64 ((↑k262 : Int) + 1) ∧ (∀ (w268 : World)
  (R269 : List Own), Ctx W w268 (R264 ++ R269) Φ265 → Calls Tryz.prog F.erratalaw41_fitted #[Value.agg #[Value.int IntKind.i64 n58, Value.int IntKind.i64 n59, Value.slice p60 k61 k62,
  Value.bool c63], Value.int IntKind.i64 n243, Value.int IntKind.i64 n252, Value.int IntKind.i64 ((↑k262 : Int) + 1)] w268 fun (e270 : Ending) (w271 : World) => ∃ (n272 : Int), ∃ (n273 :
  Int), ∃ (p274 : Option Addr), ∃ (k275 : Nat), ∃ (k276 : Nat), ∃ (c277 : Bool), e270 = Ending.returned (Value.agg #[Value.int IntKind.i64 n272, Value.int IntKind.i64 n273, Value.slice p274
  k275 k276, Value.bool c277]) ∧ ∃ (R278 : List Own), ∃ (Φ279 : PW), Stable Φ279 ∧ Ctx W w271 (R278 ++ R269) Φ279 ∧ (∀ (w280 : World) (R281 : List Own), Ctx W w280 (R278 ++ R281) Φ279 → Ctx W
  w280 (R52 ++ R281) Φ53) ∧ ∀ (w282 : World) (R283 : List Own), Ctx W w282 (R278 ++ R283) Φ279 → CanWrite w282 k236 0 4 ∧ ∀ (w284 : World), w284 = w282.setCells k236 0 [Value.int IntKind.i64
  n272, Value.int IntKind.i64 n273, Value.slice p274 k275 k276, Value.bool c277] → ∃ (R285 : List Own), ∃ (Φ286 : PW), Stable Φ286 ∧ Ctx W w284 (R285 ++ R283) Φ286 ∧ ∃ (R287 : List Own), ∃
  (Φ288 : PW), Stable Φ288 ∧ (∀ (w289 : World) (R290 : List Own), Ctx W w289 (R285 ++ R290) Φ286 → Ctx W w289 (R287 ++ R290) Φ288) ∧ I51 k236 0 R287 Φ288) ∧ True) ∧ True) ∧ True) ∧ True) ∧
  True) ∧ ∀ (k291 k292 : Nat) (R293 : List Own) (I294 : List Nat → World → Prop), Stable I294 → I51 k291 k292 R293 I294 → ∃ (R295 : List Own), ∃ (Φ296 : PW), Stable Φ296 ∧ (∀ (w297 : World)
  (R298 : List Own), Ctx W w297 (R293 ++ R298) I294 → Ctx W w297 (R295 ++ R298) Φ296) ∧ ∃ (n299 : Int), (∀ (w300 : World) (R301 : List Own), Ctx W w300 (R295 ++ R301) Φ296 → ∃ (n302 : Int),
  w300.cell? (Addr.mk k291 k292 none) = some (Value.int IntKind.i64 n302) ∧ Value.int IntKind.i64 n302 = Value.int IntKind.i64 n299) ∧ ∃ (n303 : Int), (∀ (w304 : World) (R305 : List Own), Ctx
  W w304 (R295 ++ R305) Φ296 → ∃ (n306 : Int), w304.cell? (Addr.mk k291 (k292 + 1) none) = some (Value.int IntKind.i64 n306) ∧ Value.int IntKind.i64 n306 = Value.int IntKind.i64 n303) ∧ ∃
  (p307 : Option Addr), ∃ (k308 : Nat), ∃ (k309 : Nat), (∀ (w310 : World) (R311 : List Own), Ctx W w310 (R295 ++ R311) Φ296 → ∃ (p312 : Option Addr), ∃ (k313 : Nat), ∃ (k314 : Nat),
  w310.cell? (Addr.mk k291 (k292 + 2) none) = some (Value.slice p312 k313 k314) ∧ Value.slice p312 k313 k314 = Value.slice p307 k308 k309) ∧ ∃ (n315 : Int), (∀ (w316 : World) (R317 : List
  Own), Ctx W w316 (R295 ++ R317) Φ296 → ∃ (n318 : Int), w316.cell? (Addr.mk k291 k292 none) = some (Value.int IntKind.i64 n318) ∧ Value.int IntKind.i64 n318 = Value.int IntKind.i64 n315) ∧ ∃
  (n319 : Int), (∀ (w320 : World) (R321 : List Own), Ctx W w320 (R295 ++ R321) Φ296 → ∃ (n322 : Int), w320.cell? (Addr.mk k291 (k292 + 1) none) = some (Value.int IntKind.i64 n322) ∧ Value.int
  IntKind.i64 n322 = Value.int IntKind.i64 n319) ∧ ∃ (p323 : Option Addr), ∃ (k324 : Nat), ∃ (k325 : Nat), (∀ (w326 : World) (R327 : List Own), Ctx W w326 (R295 ++ R327) Φ296 → ∃ (p328 :
  Option Addr), ∃ (k329 : Nat), ∃ (k330 : Nat), w326.cell? (Addr.mk k291 (k292 + 2) none) = some (Value.slice p328 k329 k330) ∧ Value.slice p328 k329 k330 = Value.slice p323 k324 k325) ∧ ∀
  (w331 : World) (R332 : List Own), Ctx W w331 (R293 ++ R332) I294 → Calls Tryz.prog F.ledger_Ledger_Append #[Value.pointer p29, Value.int IntKind.i64 n299, Value.int IntKind.i64 n303,
  Value.slice p307 k308 k309] w331 fun (e333 : Ending) (w334 : World) => ∃ (n335 : Int), e333 = Ending.returned (Value.int IntKind.i64 n335) ∧ ∃ (R336 : List Own), ∃ (Φ337 : PW), Stable Φ337
  ∧ Ctx W w334 (R336 ++ R332) Φ337 ∧ (∀ (w338 : World) (R339 : List Own), Ctx W w338 (R336 ++ R339) Φ337 → Ctx W w338 (R295 ++ R339) Φ296) ∧ ∀ (w340 : World) (R341 : List Own), Ctx W w340
  (R336 ++ R341) Φ337 → Calls Tryz.prog F.errataref41_Ledger_Append #[Value.pointer p36, Value.int IntKind.i64 n315, Value.int IntKind.i64 n319, Value.slice p323 k324 k325] w340 fun (e342 :
  Ending) (w343 : World) => ∃ (n344 : Int), e342 = Ending.returned (Value.int IntKind.i64 n344) ∧ ∃ (R345 : List Own), ∃ (Φ346 : PW), Stable Φ346 ∧ Ctx W w343 (R345 ++ R341) Φ346 ∧ ∃ (R347 :
  List Own), ∃ (Φ348 : PW), Stable Φ348 ∧ (∀ (w349 : World) (R350 : List Own), Ctx W w349 (R345 ++ R350) Φ346 → Ctx W w349 (R347 ++ R350) Φ348) ∧ Br (decide (n335 ≠ n344)) (∃ (R351 : List
  Own), ∃ (Φ352 : PW), Stable Φ352 ∧ (∀ (w353 : World) (R354 : List Own), Ctx W w353 (R345 ++ R354) Φ346 → Ctx W w353 (R351 ++ R354) Φ352) ∧ ∃ (R355 : List Own), ∃ (Φ356 : PW), Stable Φ356 ∧
  (∀ (w357 : World) (R358 : List Own), Ctx W w357 (R345 ++ R358) Φ346 → Ctx W w357 (R355 ++ R358) Φ356) ∧ ∀ (w359 : World) (R360 : List Own), Ctx W w359 (R345 ++ R360) Φ346 → J (Value.bool
  false) w359) (∀ (w361 : World) (R362 : List Own), Ctx W w361 (R345 ++ R362) Φ346 → Calls Tryz.prog F.ledger_Ledger_Last #[Value.pointer p29] w361 fun (e363 : Ending) (w364 : World) => ∃
  (n365 : Int), e363 = Ending.returned (Value.int IntKind.i64 n365) ∧ ∃ (R366 : List Own), ∃ (Φ367 : PW), Stable Φ367 ∧ Ctx W w364 (R366 ++ R362) Φ367 ∧ (∀ (w368 : World) (R369 : List Own),
  Ctx W w368 (R366 ++ R369) Φ367 → Ctx W w368 (R347 ++ R369) Φ348) ∧ ∀ (w370 : World) (R371 : List Own), Ctx W w370 (R366 ++ R371) Φ367 → Calls Tryz.prog F.errataref41_Ledger_Last
  #[Value.pointer p36] w370 fun (e372 : Ending) (w373 : World) => ∃ (n374 : Int), e372 = Ending.returned (Value.int IntKind.i64 n374) ∧ ∃ (R375 : List Own), ∃ (Φ376 : PW), Stable Φ376 ∧ Ctx W
  w373 (R375 ++ R371) Φ376 ∧ ∃ (R377 : List Own), ∃ (Φ378 : PW), Stable Φ378 ∧ (∀ (w379 : World) (R380 : List Own), Ctx W w379 (R375 ++ R380) Φ376 → Ctx W w379 (R377 ++ R380) Φ378) ∧ Br
  (decide (n365 ≠ n374)) (∃ (R381 : List Own), ∃ (Φ382 : PW), Stable Φ382 ∧ (∀ (w383 : World) (R384 : List Own), Ctx W w383 (R375 ++ R384) Φ376 → Ctx W w383 (R381 ++ R384) Φ382) ∧ ∀ (w385 :
  World) (R386 : List Own), Ctx W w385 (R375 ++ R386) Φ376 → J (Value.bool false) w385) (∀ (w387 : World) (R388 : List Own), Ctx W w387 (R375 ++ R388) Φ376 → Calls Tryz.prog
  F.ledger_Ledger_Mark #[Value.pointer p29] w387 fun (e389 : Ending) (w390 : World) => ∃ (n391 : Int), e389 = Ending.returned (Value.int IntKind.i64 n391) ∧ ∃ (R392 : List Own), ∃ (Φ393 :
  PW), Stable Φ393 ∧ Ctx W w390 (R392 ++ R388) Φ393 ∧ (∀ (w394 : World) (R395 : List Own), Ctx W w394 (R392 ++ R395) Φ393 → Ctx W w394 (R377 ++ R395) Φ378) ∧ ∀ (w396 : World) (R397 : List
  Own), Ctx W w396 (R392 ++ R397) Φ393 → Calls Tryz.prog F.errataref41_Ledger_Mark #[Value.pointer p36] w396 fun (e398 : Ending) (w399 : World) => ∃ (n400 : Int), e398 = Ending.returned
  (Value.int IntKind.i64 n400) ∧ ∃ (R401 : List Own), ∃ (Φ402 : PW), Stable Φ402 ∧ Ctx W w399 (R401 ++ R397) Φ402 ∧ ∃ (R403 : List Own), ∃ (Φ404 : PW), Stable Φ404 ∧ (∀ (w405 : World) (R406 :
  List Own), Ctx W w405 (R401 ++ R406) Φ402 → Ctx W w405 (R403 ++ R406) Φ404) ∧ Br (decide (n391 ≠ n400)) (∀ (w407 : World) (R408 : List Own), Ctx W w407 (R401 ++ R408) Φ402 → J (Value.bool
  false) w407) (∀ (w409 : World) (R410 : List Own), Ctx W w409 (R401 ++ R410) Φ402 → Calls Tryz.prog F.ledger_Ledger_Next #[Value.pointer p29] w409 fun (e411 : Ending) (w412 : World) => ∃
  (n413 : Int), e411 = Ending.returned (Value.int IntKind.i64 n413) ∧ ∃ (R414 : List Own), ∃ (Φ415 : PW), Stable Φ415 ∧ Ctx W w412 (R414 ++ R410) Φ415 ∧ (∀ (w416 : World) (R417 : List Own),
  Ctx W w416 (R414 ++ R417) Φ415 → Ctx W w416 (R403 ++ R417) Φ404) ∧ ∀ (w418 : World) (R419 : List Own), Ctx W w418 (R414 ++ R419) Φ415 → Calls Tryz.prog F.errataref41_Ledger_Lines
  #[Value.pointer p36] w418 fun (e420 : Ending) (w421 : World) => ∃ (p422 : Option Addr), ∃ (k423 : Nat), ∃ (k424 : Nat), e420 = Ending.returned (Value.slice p422 k423 k424) ∧ ∃ (R425 : List
  Own), ∃ (Φ426 : PW), Stable Φ426 ∧ Ctx W w421 (R425 ++ R419) Φ426 ∧ I64 ((↑k423 : Int) + 1) ∧ Br (decide (n413 ≠ (↑k423 : Int) + 1)) (∀ (w427 : World) (R428 : List Own), Ctx W w427 (R425 ++
  R428) Φ426 → J (Value.bool false) w427) (I64 (n47 + 1) ∧ ∃ (R429 : List Own), ∃ (Φ430 : PW), ∃ (k431 : Nat), Stable Φ430 ∧ (∀ (w432 : World) (R433 : List Own), Ctx W w432 (R425 ++ R433)
  Φ426 → Ctx W w432 (R429 ++ R433) Φ430) ∧ I41 (n47 + 1) R429 Φ430 k431 ∧ k431 < k50))))) (∀ (w434 : World) (R435 : List Own), Ctx W w434 (R48 ++ R435) I49 → Calls Tryz.prog
  F.ledger_Ledger_Causes #[Value.pointer p29] w434 fun (e436 : Ending) (w437 : World) => ∃ (n438 : Int), ∃ (n439 : Int), ∃ (n440 : Int), e436 = Ending.returned (Value.tuple #[Value.int
  IntKind.i64 n438, Value.int IntKind.i64 n439, Value.int IntKind.i64 n440]) ∧ ∃ (R441 : List Own), ∃ (Φ442 : PW), Stable Φ442 ∧ Ctx W w437 (R441 ++ R435) Φ442 ∧ ∀ (w443 : World) (R444 : List
  Own), Ctx W w443 (R441 ++ R444) Φ442 → Calls Tryz.prog F.errataref41_Ledger_Caused #[Value.pointer p36, Value.int IntKind.i64 0] w443 fun (e445 : Ending) (w446 : World) => ∃ (n447 : Int),
  e445 = Ending.returned (Value.int IntKind.i64 n447) ∧ ∃ (R448 : List Own), ∃ (Φ449 : PW), Stable Φ449 ∧ Ctx W w446 (R448 ++ R444) Φ449 ∧ Br (decide (n438 ≠ n447)) (∀ (w450 : World) (R451 :
  List Own), Ctx W w450 (R448 ++ R451) Φ449 → J (Value.bool false) w450) (∀ (w452 : World) (R453 : List Own), Ctx W w452 (R448 ++ R453) Φ449 → Calls Tryz.prog F.errataref41_Ledger_Caused
  #[Value.pointer p36, Value.int IntKind.i64 1] w452 fun (e454 : Ending) (w455 : World) => ∃ (n456 : Int), e454 = Ending.returned (Value.int IntKind.i64 n456) ∧ ∃ (R457 : List Own), ∃ (Φ458 :
  PW), Stable Φ458 ∧ Ctx W w455 (R457 ++ R453) Φ458 ∧ Br (decide (n439 ≠ n456)) (∀ (w459 : World) (R460 : List Own), Ctx W w459 (R457 ++ R460) Φ458 → J (Value.bool false) w459) (∀ (w461 :
  World) (R462 : List Own), Ctx W w461 (R457 ++ R462) Φ458 → Calls Tryz.prog F.errataref41_Ledger_Caused #[Value.pointer p36, Value.int IntKind.i64 2] w461 fun (e463 : Ending) (w464 : World)
  => ∃ (n465 : Int), e463 = Ending.returned (Value.int IntKind.i64 n465) ∧ ∃ (R466 : List Own), ∃ (Φ467 : PW), Stable Φ467 ∧ Ctx W w464 (R466 ++ R462) Φ467 ∧ Br (decide (n440 ≠ n465)) (∀
  (w468 : World) (R469 : List Own), Ctx W w468 (R466 ++ R469) Φ467 → J (Value.bool false) w468) (∀ (w470 : World) (R471 : List Own), Ctx W w470 (R466 ++ R471) Φ467 → Calls Tryz.prog
  F.ledger_Ledger_Lines #[Value.pointer p29] w470 fun (e472 : Ending) (w473 : World) => ∃ (p474 : Option Addr), ∃ (k475 : Nat), ∃ (k476 : Nat), e472 = Ending.returned (Value.slice p474 k475
  k476) ∧ ∃ (R477 : List Own), ∃ (Φ478 : PW), Stable Φ478 ∧ Ctx W w473 (R477 ++ R471) Φ478 ∧ ∀ (w479 : World) (R480 : List Own), Ctx W w479 (R477 ++ R480) Φ478 → Calls Tryz.prog
  F.errataref41_Ledger_Lines #[Value.pointer p36] w479 fun (e481 : Ending) (w482 : World) => ∃ (p483 : Option Addr), ∃ (k484 : Nat), ∃ (k485 : Nat), e481 = Ending.returned (Value.slice p483
  k484 k485) ∧ ∃ (R486 : List Own), ∃ (Φ487 : PW), Stable Φ487 ∧ Ctx W w482 (R486 ++ R480) Φ487 ∧ ∀ (w488 : World) (R489 : List Own), Ctx W w488 (R486 ++ R489) Φ487 → Calls Tryz.prog
  F.errataref41_SameLines #[Value.slice p474 k475 k476, Value.slice p483 k484 k485] w488 fun (e490 : Ending) (w491 : World) => ∃ (c492 : Bool), e490 = Ending.returned (Value.bool c492) ∧ ∃
  (R493 : List Own), ∃ (Φ494 : PW), Stable Φ494 ∧ Ctx W w491 (R493 ++ R489) Φ494 ∧ Br (!c492) (∀ (w495 : World) (R496 : List Own), Ctx W w495 (R493 ++ R496) Φ494 → J (Value.bool false) w495)
  (∀ (w497 : World) (R498 : List Own), Ctx W w497 (R493 ++ R498) Φ494 → Calls Tryz.prog F.ledger_Ledger_Bytes #[Value.pointer p29] w497 fun (e499 : Ending) (w500 : World) => ∃ (s501 :
  ByteArray), e499 = Ending.returned (Value.string s501) ∧ ∃ (R502 : List Own), ∃ (Φ503 : PW), Stable Φ503 ∧ Ctx W w500 (R502 ++ R498) Φ503 ∧ ∀ (w504 : World) (R505 : List Own), Ctx W w504
  (R502 ++ R505) Φ503 → Calls Tryz.prog F.errataref41_Ledger_Bytes #[Value.pointer p36] w504 fun (e506 : Ending) (w507 : World) => ∃ (s508 : ByteArray), e506 = Ending.returned (Value.string
  s508) ∧ ∃ (R509 : List Own), ∃ (Φ510 : PW), Stable Φ510 ∧ Ctx W w507 (R509 ++ R505) Φ510 ∧ Br (decide (s501 ≠ s508)) (∀ (w511 : World) (R512 : List Own), Ctx W w511 (R509 ++ R512) Φ510 → J
  (Value.bool false) w511) (∀ (w513 : World) (R514 : List Own), Ctx W w513 (R509 ++ R514) Φ510 → Calls Tryz.prog F.errataref41_Ledger_Lines #[Value.pointer p36] w513 fun (e515 : Ending) (w516
  : World) => ∃ (p517 : Option Addr), ∃ (k518 : Nat), ∃ (k519 : Nat), e515 = Ending.returned (Value.slice p517 k518 k519) ∧ ∃ (R520 : List Own), ∃ (Φ521 : PW), Stable Φ521 ∧ Ctx W w516 (R520
  ++ R514) Φ521 ∧ ∀ (w522 : World) (R523 : List Own), Ctx W w522 (R520 ++ R523) Φ521 → Calls Tryz.prog F.errataref41_Net #[Value.slice p517 k518 k519] w522 fun (e524 : Ending) (w525 : World)
  => ∃ (p526 : Option Addr), ∃ (k527 : Nat), ∃ (k528 : Nat), e524 = Ending.returned (Value.slice p526 k527 k528) ∧ ∃ (R529 : List Own), ∃ (Φ530 : PW), Stable Φ530 ∧ Ctx W w525 (R529 ++ R523)
  Φ530 ∧ ∀ (w531 : World) (R532 : List Own), Ctx W w531 (R529 ++ R532) Φ530 → Calls Tryz.prog F.ledger_Ledger_Net #[Value.pointer p29] w531 fun (e533 : Ending) (w534 : World) => ∃ (p535 :
  Option Addr), ∃ (k536 : Nat), ∃ (k537 : Nat), e533 = Ending.returned (Value.slice p535 k536 k537) ∧ ∃ (R538 : List Own), ∃ (Φ539 : PW), Stable Φ539 ∧ Ctx W w534 (R538 ++ R532) Φ539 ∧ ∀
  (w540 : World) (R541 : List Own), Ctx W w540 (R538 ++ R541) Φ539 → Calls Tryz.prog F.errataref28_Equal #[Value.slice p535 k536 k537, Value.slice p526 k527 k528] w540 fun (e542 : Ending)
  (w543 : World) => ∃ (c544 : Bool), e542 = Ending.returned (Value.bool c544) ∧ ∃ (R545 : List Own), ∃ (Φ546 : PW), Stable Φ546 ∧ Ctx W w543 (R545 ++ R541) Φ546 ∧ Br (!c544) (∀ (w547 : World)
  (R548 : List Own), Ctx W w547 (R545 ++ R548) Φ546 → J (Value.bool false) w547) (∀ (w549 : World) (R550 : List Own), Ctx W w549 (R545 ++ R550) Φ546 → Calls Tryz.prog F.ledger_Ledger_Upto
  #[Value.pointer p29, Value.int IntKind.i64 time] w549 fun (e551 : Ending) (w552 : World) => ∃ (p553 : Option Addr), ∃ (k554 : Nat), ∃ (k555 : Nat), e551 = Ending.returned (Value.slice p553
  k554 k555) ∧ ∃ (R556 : List Own), ∃ (Φ557 : PW), Stable Φ557 ∧ Ctx W w552 (R556 ++ R550) Φ557 ∧ ∀ (w558 : World) (R559 : List Own), Ctx W w558 (R556 ++ R559) Φ557 → Calls Tryz.prog
  F.errataref28_Upto #[Value.slice p526 k527 k528, Value.int IntKind.i64 time] w558 fun (e560 : Ending) (w561 : World) => ∃ (p562 : Option Addr), ∃ (k563 : Nat), ∃ (k564 : Nat), e560 =
  Ending.returned (Value.slice p562 k563 k564) ∧ ∃ (R565 : List Own), ∃ (Φ566 : PW), Stable Φ566 ∧ Ctx W w561 (R565 ++ R559) Φ566 ∧ ∀ (w567 : World) (R568 : List Own), Ctx W w567 (R565 ++
  R568) Φ566 → Calls Tryz.prog F.errataref28_Equal #[Value.slice p553 k554 k555, Value.slice p562 k563 k564] w567 fun (e569 : Ending) (w570 : World) => ∃ (c571 : Bool), e569 = Ending.returned
  (Value.bool c571) ∧ ∃ (R572 : List Own), ∃ (Φ573 : PW), Stable Φ573 ∧ Ctx W w570 (R572 ++ R568) Φ573 ∧ Br (!c571) (∀ (w574 : World) (R575 : List Own), Ctx W w574 (R572 ++ R575) Φ573 → J
  (Value.bool false) w574) (∀ (w576 : World) (R577 : List Own), Ctx W w576 (R572 ++ R577) Φ573 → Calls Tryz.prog F.ledger_Ledger_At #[Value.pointer p29, Value.int IntKind.i64 no] w576 fun
  (e578 : Ending) (w579 : World) => ∃ (p580 : Option Addr), ∃ (k581 : Nat), ∃ (k582 : Nat), e578 = Ending.returned (Value.slice p580 k581 k582) ∧ ∃ (R583 : List Own), ∃ (Φ584 : PW), Stable
  Φ584 ∧ Ctx W w579 (R583 ++ R577) Φ584 ∧ ∀ (w585 : World) (R586 : List Own), Ctx W w585 (R583 ++ R586) Φ584 → Calls Tryz.prog F.errataref41_Ledger_At #[Value.pointer p36, Value.int
  IntKind.i64 no] w585 fun (e587 : Ending) (w588 : World) => ∃ (p589 : Option Addr), ∃ (k590 : Nat), ∃ (k591 : Nat), e587 = Ending.returned (Value.slice p589 k590 k591) ∧ ∃ (R592 : List Own),
  ∃ (Φ593 : PW), Stable Φ593 ∧ Ctx W w588 (R592 ++ R586) Φ593 ∧ ∀ (w594 : World) (R595 : List Own), Ctx W w594 (R592 ++ R595) Φ593 → Calls Tryz.prog F.errataref28_Equal #[Value.slice p580
  k581 k582, Value.slice p589 k590 k591] w594 fun (e596 : Ending) (w597 : World) => ∃ (c598 : Bool), e596 = Ending.returned (Value.bool c598) ∧ ∃ (R599 : List Own), ∃ (Φ600 : PW), Stable Φ600
  ∧ Ctx W w597 (R599 ++ R595) Φ600 ∧ Br (!c598) (∀ (w601 : World) (R602 : List Own), Ctx W w601 (R599 ++ R602) Φ600 → J (Value.bool false) w601) (∀ (w603 : World) (R604 : List Own), Ctx W
  w603 (R599 ++ R604) Φ600 → Calls Tryz.prog F.ledger_Ledger_Line #[Value.pointer p29, Value.int IntKind.i64 no] w603 fun (e605 : Ending) (w606 : World) => ∃ (n607 : Int), ∃ (n608 : Int), ∃
  (n609 : Int), ∃ (p610 : Option Addr), ∃ (k611 : Nat), ∃ (k612 : Nat), ∃ (n613 : Int), ∃ (n614 : Int), ∃ (n615 : Int), ∃ (c616 : Bool), e605 = Ending.returned (Value.tuple #[Value.agg
  #[Value.int IntKind.i64 n607, Value.int IntKind.i64 n608, Value.int IntKind.i64 n609, Value.slice p610 k611 k612, Value.int IntKind.i64 n613, Value.int IntKind.i64 n614, Value.int
  IntKind.i64 n615], Value.bool c616]) ∧ ∃ (R617 : List Own), ∃ (Φ618 : PW), Stable Φ618 ∧ Ctx W w606 (R617 ++ R604) Φ618 ∧ ∀ (b : Nat) (w619 : World) (R620 : List Own), Ctx W w619 (R617 ++
  R620) Φ618 → Calls Tryz.prog F.errataref41_Ledger_Lines #[Value.pointer p36] w619 fun (e621 : Ending) (w622 : World) => ∃ (p623 : Option Addr), ∃ (k624 : Nat), ∃ (k625 : Nat), e621 =
  Ending.returned (Value.slice p623 k624 k625) ∧ ∃ (R626 : List Own), ∃ (Φ627 : PW), Stable Φ627 ∧ Ctx W w622 (R626 ++ R620) Φ627 ∧ ∀ (w628 : World) (R629 : List Own), Ctx W w628 (R626 ++
  R629) Φ627 → Br (c616 != (decide (1 ≤ no) && decide (no ≤ (↑k624 : Int)))) (∀ (w630 : World) (R631 : List Own), Ctx W w630 (R626 ++ R631) Φ627 → J (Value.bool false) w630) (exI fun (I632 :
  List Own → PW → Prop) => (∃ (R633 : List Own), ∃ (Φ634 : PW), Stable Φ634 ∧ (∀ (w635 : World) (R636 : List Own), Ctx W w635 (R626 ++ R636) Φ627 → Ctx W w635 (R633 ++ R636) Φ634) ∧ Br c616
  (I64 (no - 1) ∧ (0 ≤ max (no - 1) 0 ∧ max (no - 1) 0 < (↑k624 : Int)) ∧ ptrK none p623 fun (k637 k638 : Nat) => ∃ (n639 : Int), ∃ (n640 : Int), ∃ (n641 : Int), ∃ (p642 : Option Addr), ∃
  (k643 : Nat), ∃ (k644 : Nat), ∃ (n645 : Int), ∃ (n646 : Int), ∃ (n647 : Int), (∀ (w648 : World) (R649 : List Own), Ctx W w648 (R633 ++ R649) Φ634 → ∃ (n650 : Int), ∃ (n651 : Int), ∃ (n652 :
  Int), ∃ (p653 : Option Addr), ∃ (k654 : Nat), ∃ (k655 : Nat), ∃ (n656 : Int), ∃ (n657 : Int), ∃ (n658 : Int), RowAt w648 k637 (k638 + (max (no - 1) 0).toNat * 7) [Value.int IntKind.i64
  n650, Value.int IntKind.i64 n651, Value.int IntKind.i64 n652, Value.slice p653 k654 k655, Value.int IntKind.i64 n656, Value.int IntKind.i64 n657, Value.int IntKind.i64 n658] ∧ Value.agg
  #[Value.int IntKind.i64 n650, Value.int IntKind.i64 n651, Value.int IntKind.i64 n652, Value.slice p653 k654 k655, Value.int IntKind.i64 n656, Value.int IntKind.i64 n657, Value.int
  IntKind.i64 n658] = Value.agg #[Value.int IntKind.i64 n639, Value.int IntKind.i64 n640, Value.int IntKind.i64 n641, Value.slice p642 k643 k644, Value.int IntKind.i64 n645, Value.int
  IntKind.i64 n646, Value.int IntKind.i64 n647]) ∧ ∀ (w659 : World) (R660 : List Own), Ctx W w659 (R626 ++ R660) Φ627 → Calls Tryz.prog F.errataref41_SameLine #[Value.agg #[Value.int
  IntKind.i64 n607, Value.int IntKind.i64 n608, Value.int IntKind.i64 n609, Value.slice p610 k611 k612, Value.int IntKind.i64 n613, Value.int IntKind.i64 n614, Value.int IntKind.i64 n615],
  Value.agg #[Value.int IntKind.i64 n639, Value.int IntKind.i64 n640, Value.int IntKind.i64 n641, Value.slice p642 k643 k644, Value.int IntKind.i64 n645, Value.int IntKind.i64 n646, Value.int
  IntKind.i64 n647]] w659 fun (e661 : Ending) (w662 : World) => ∃ (c663 : Bool), e661 = Ending.returned (Value.bool c663) ∧ ∃ (R664 : List Own), ∃ (Φ665 : PW), Stable Φ665 ∧ Ctx W w662 (R664
  ++ R660) Φ665 ∧ Br (!c663) (∀ (w666 : World) (R667 : List Own), Ctx W w666 (R664 ++ R667) Φ665 → J (Value.bool false) w666) (∃ (R668 : List Own), ∃ (Φ669 : PW), Stable Φ669 ∧ (∀ (w670 :
  World) (R671 : List Own), Ctx W w670 (R664 ++ R671) Φ665 → Ctx W w670 (R668 ++ R671) Φ669) ∧ I632 R668 Φ669)) (∃ (R672 : List Own), ∃ (Φ673 : PW), Stable Φ673 ∧ (∀ (w674 : World) (R675 :
  List Own), Ctx W w674 (R626 ++ R675) Φ627 → Ctx W w674 (R672 ++ R675) Φ673) ∧ I632 R672 Φ673)) ∧ ∀ (R676 : List Own) (I677 : List Nat → World → Prop), Stable I677 → I632 R676 I677 → ∀ (w678
  : World) (R679 : List Own), Ctx W w678 (R676 ++ R679) I677 → Calls Tryz.prog F.ledger_Ledger_Batch #[Value.pointer p29, Value.int IntKind.i64 no] w678 fun (e680 : Ending) (w681 : World) =>
  ∃ (p682 : Option Addr), ∃ (k683 : Nat), ∃ (k684 : Nat), ∃ (n685 : Int), ∃ (c686 : Bool), e680 = Ending.returned (Value.tuple #[Value.slice p682 k683 k684, Value.int IntKind.i64 n685,
  Value.bool c686]) ∧ ∃ (R687 : List Own), ∃ (Φ688 : PW), Stable Φ688 ∧ Ctx W w681 (R687 ++ R679) Φ688 ∧ exI fun (I689 : Bool → Int → List Own → PW → Nat → Prop) => (∃ (R690 : List Own), ∃
  (Φ691 : PW), ∃ (k692 : Nat), Stable Φ691 ∧ (∀ (w693 : World) (R694 : List Own), Ctx W w693 (R687 ++ R694) Φ688 → Ctx W w693 (R690 ++ R694) Φ691) ∧ I689 false 0 R690 Φ691 k692) ∧ ∀ (c695 :
  Bool) (n696 : Int) (R697 : List Own) (I698 : List Nat → World → Prop) (k699 : Nat), Stable I698 → I689 c695 n696 R697 I698 k699 → ptrK none p36 fun (k700 k701 : Nat) => ∀ (w702 : World)
  (R703 : List Own), Ctx W w702 (R697 ++ R703) I698 → ∃ (p704 : Option Addr), ∃ (k705 : Nat), ∃ (k706 : Nat), w702.cell? (Addr.mk k700 k701 none) = some (Value.slice p704 k705 k706) ∧ Br
  (decide (n696 < (↑k705 : Int))) (ptrK none p36 fun (k707 k708 : Nat) => ∀ (w709 : World) (R710 : List Own), Ctx W w709 (R697 ++ R710) I698 → ∃ (p711 : Option Addr), ∃ (k712 : Nat), ∃ (k713
  : Nat), w709.cell? (Addr.mk k707 k708 none) = some (Value.slice p711 k712 k713) ∧ (0 ≤ n696 ∧ n696 < (↑k712 : Int)) ∧ ptrK none p711 fun (k714 k715 : Nat) => ∀ (w716 : World) (R717 : List
  Own), Ctx W w716 (R697 ++ R717) I698 → ∃ (n718 : Int), w716.cell? (Addr.mk k714 (k715 + n696.toNat * 3) none) = some (Value.int IntKind.i64 n718) ∧ Br (decide (n718 = no)) (ptrK none p36
  fun (k719 k720 : Nat) => ∀ (w721 : World) (R722 : List Own), Ctx W w721 (R697 ++ R722) I698 → ∃ (p723 : Option Addr), ∃ (k724 : Nat), ∃ (k725 : Nat), w721.cell? (Addr.mk k719 k720 none) =
  some (Value.slice p723 k724 k725) ∧ (0 ≤ n696 ∧ n696 < (↑k724 : Int)) ∧ ptrK none p723 fun (k726 k727 : Nat) => ∀ (w728 : World) (R729 : List Own), Ctx W w728 (R697 ++ R729) I698 → ∃ (p730
  : Option Addr), ∃ (k731 : Nat), ∃ (k732 : Nat), w728.cell? (Addr.mk k726 (k727 + n696.toNat * 3 + 2) none) = some (Value.slice p730 k731 k732) ∧ ∀ (w733 : World) (R734 : List Own), Ctx W
  w733 (R697 ++ R734) I698 → Calls Tryz.prog F.errataref41_SameLines #[Value.slice p682 k683 k684, Value.slice p730 k731 k732] w733 fun (e735 : Ending) (w736 : World) => ∃ (c737 : Bool), e735
  = Ending.returned (Value.bool c737) ∧ ∃ (R738 : List Own), ∃ (Φ739 : PW), Stable Φ739 ∧ Ctx W w736 (R738 ++ R734) Φ739 ∧ Br (!c737) (∀ (w740 : World) (R741 : List Own), Ctx W w740 (R738 ++
  R741) Φ739 → J (Value.bool false) w740) (ptrK none p36 fun (k742 k743 : Nat) => ∀ (w744 : World) (R745 : List Own), Ctx W w744 (R738 ++ R745) Φ739 → ∃ (p746 : Option Addr), ∃ (k747 : Nat),
  ∃ (k748 : Nat), w744.cell? (Addr.mk k742 k743 none) = some (Value.slice p746 k747 k748) ∧ (0 ≤ n696 ∧ n696 < (↑k747 : Int)) ∧ ptrK none p746 fun (k749 k750 : Nat) => ∀ (w751 : World) (R752
  : List Own), Ctx W w751 (R738 ++ R752) Φ739 → ∃ (n753 : Int), w751.cell? (Addr.mk k749 (k750 + n696.toNat * 3 + 1) none) = some (Value.int IntKind.i64 n753) ∧ Br (decide (n685 ≠ n753)) (∀
  (w754 : World) (R755 : List Own), Ctx W w754 (R738 ++ R755) Φ739 → J (Value.bool false) w754) (I64 (n696 + 1) ∧ ∃ (R756 : List Own), ∃ (Φ757 : PW), ∃ (k758 : Nat), Stable Φ757 ∧ (∀ (w759 :
  World) (R760 : List Own), Ctx W w759 (R738 ++ R760) Φ739 → Ctx W w759 (R756 ++ R760) Φ757) ∧ I689 true (n696 + 1) R756 Φ757 k758 ∧ k758 < k699))) (I64 (n696 + 1) ∧ ∃ (R761 : List Own), ∃
  (Φ762 : PW), ∃ (k763 : Nat), Stable Φ762 ∧ (∀ (w764 : World) (R765 : List Own), Ctx W w764 (R697 ++ R765) I698 → Ctx W w764 (R761 ++ R765) Φ762) ∧ I689 c695 (n696 + 1) R761 Φ762 k763 ∧ k763
  < k699)) (Br (c695 != c686) (∀ (w766 : World) (R767 : List Own), Ctx W w766 (R697 ++ R767) I698 → J (Value.bool false) w766) (∀ (w768 : World) (R769 : List Own), Ctx W w768 (R697 ++ R769)
  I698 → Calls Tryz.prog F.errataref03_RightRow #[Value.slice rowP rowN rowC] w768 fun (e770 : Ending) (w771 : World) => ∃ (c772 : Bool), e770 = Ending.returned (Value.bool c772) ∧ ∃ (R773 :
  List Own), ∃ (Φ774 : PW), Stable Φ774 ∧ Ctx W w771 (R773 ++ R769) Φ774 ∧ Br (!c772) (∀ (w775 : World) (R776 : List Own), Ctx W w775 (R773 ++ R776) Φ774 → J (Value.bool c4) w775) (Br c4 (∀
  (w777 : World) (R778 : List Own), Ctx W w777 (R773 ++ R778) Φ774 → Calls Tryz.prog F.ledger_Ledger_Count #[Value.pointer p29, Value.int IntKind.i64 time, Value.slice rowP rowN rowC] w777
  fun (e779 : Ending) (w780 : World) => ∃ (n781 : Int), e779 = Ending.returned (Value.int IntKind.i64 n781) ∧ ∃ (R782 : List Own), ∃ (Φ783 : PW), Stable Φ783 ∧ Ctx W w780 (R782 ++ R778) Φ783
  ∧ ∀ (w784 : World) (R785 : List Own), Ctx W w784 (R782 ++ R785) Φ783 → Calls Tryz.prog F.errataref41_Ledger_Count #[Value.pointer p36, Value.int IntKind.i64 time, Value.slice rowP rowN
  rowC] w784 fun (e786 : Ending) (w787 : World) => ∃ (n788 : Int), e786 = Ending.returned (Value.int IntKind.i64 n788) ∧ ∃ (R789 : List Own), ∃ (Φ790 : PW), Stable Φ790 ∧ Ctx W w787 (R789 ++
  R785) Φ790 ∧ Br (decide (n781 = n788)) (∀ (w791 : World) (R792 : List Own), Ctx W w791 (R789 ++ R792) Φ790 → Calls Tryz.prog F.ledger_Ledger_History #[Value.pointer p29, Value.int
  IntKind.i64 time, Value.slice rowP rowN rowC] w791 fun (e793 : Ending) (w794 : World) => ∃ (p795 : Option Addr), ∃ (k796 : Nat), ∃ (k797 : Nat), e793 = Ending.returned (Value.slice p795
  k796 k797) ∧ ∃ (R798 : List Own), ∃ (Φ799 : PW), Stable Φ799 ∧ Ctx W w794 (R798 ++ R792) Φ799 ∧ ∀ (w800 : World) (R801 : List Own), Ctx W w800 (R798 ++ R801) Φ799 → Calls Tryz.prog
  F.errataref41_Ledger_History #[Value.pointer p36, Value.int IntKind.i64 time, Value.slice rowP rowN rowC] w800 fun (e802 : Ending) (w803 : World) => ∃ (p804 : Option Addr), ∃ (k805 : Nat),
  ∃ (k806 : Nat), e802 = Ending.returned (Value.slice p804 k805 k806) ∧ ∃ (R807 : List Own), ∃ (Φ808 : PW), Stable Φ808 ∧ Ctx W w803 (R807 ++ R801) Φ808 ∧ ∀ (w809 : World) (R810 : List Own),
  Ctx W w809 (R807 ++ R810) Φ808 → Calls Tryz.prog F.errataref41_SameLines #[Value.slice p795 k796 k797, Value.slice p804 k805 k806] w809 fun (e811 : Ending) (w812 : World) => ∃ (c813 :
  Bool), e811 = Ending.returned (Value.bool c813) ∧ ∃ (R814 : List Own), ∃ (Φ815 : PW), Stable Φ815 ∧ Ctx W w812 (R814 ++ R810) Φ815 ∧ ∀ (w816 : World) (R817 : List Own), Ctx W w816 (R814 ++
  R817) Φ815 → J (Value.bool c813) w816) (∀ (w818 : World) (R819 : List Own), Ctx W w818 (R789 ++ R819) Φ790 → J (Value.bool false) w818)) (∀ (w820 : World) (R821 : List Own), Ctx W w820
  (R773 ++ R821) Φ774 → J (Value.bool false) w820)))))))))))))))))

theorem Cerratalaw41_LedgerTells_run (lP : Option Addr) (lN lC : Nat) (time : Int) (rowP : Option Addr) (rowN rowC : Nat) (no : Int) {W w : World} {R : List Own} {Φ : PW} [Stable Φ] {J : Value → World → Prop} (c : Ctx W w R Φ) (h : Cerratalaw41_LedgerTells lP lN lC time rowP rowN rowC no W R Φ J) : Calls Tryz.prog F.erratalaw41_LedgerTells #[.slice lP lN lC, .int .i64 time, .slice rowP rowN rowC, .int .i64 no] w fun e w' => ∃ v, e = .returned v ∧ J v w' :=
  vcFS_sound (H := { keep := some [0, 1, 2, 3, 8, 9, 10, 11, 12, 13, 14, 15, 16, 17, 18, 19, 20, 21, 22, 23, 24, 25, 34, 39, 43, 98, 135, 163, 181, 193, 207, 219, 242, 245, 248], track := [18], stages := [(11, [.tree (.rd 0 (.rd 1 (.rd 4 (.rd 6 (.rd 8 (.rd 2 (.rd 3 (.alt 5 (.alt 7 (.alt 9 (.rd 10 (.rd 11 (.alt 12 (.alt 13 (.done) (.no)) (.alt 13 (.alt 12 (.done) (.no)) (.no))))) (.alt 13 (.alt 9 (.rd 10 (.rd 11 (.alt 12 (.done) (.no)))) (.no)) (.no))) (.alt 13 (.alt 7 (.alt 9 (.rd 10 (.rd 11 (.alt 12 (.done) (.no)))) (.no)) (.no)) (.no))) (.alt 13 (.alt 5 (.alt 7 (.alt 9 (.rd 10 (.rd 11 (.alt 12 (.done) (.no)))) (.no)) (.no)) (.no)) (.no)))))))))) 14, .stage [] (some 14)]), (12, [.held [(0, true), (1, true), (3, true), (5, true), (8, true), (9, true), (11, true), (13, true), (2, true), (4, true), (6, true), (10, true), (12, true), (14, true), (7, false)], .stage [] (some 15), .held [(16, true), (17, true), (18, true), (20, true), (19, false)], .stage [] (some 21), .held [(22, true), (23, true), (24, true), (25, true), (27, true), (26, false)], .stage [] (some 28), .held [(29, true), (30, true), (31, true), (32, true), (34, true), (33, false)], .stage [] (some 35), .stage [36, 37, 38, 39] none]), (24, [.held [(0, true), (1, true), (2, true), (3, true), (4, true), (5, true), (6, true), (7, true), (8, true)], .stage [] (some 9), .stage [10, 11] none])], split := [2, 15, 18, 33, 39], loops := [(29, [(24, .one (.bool)), (25, .one (.int .i64))], []), (9, [(12, .one (.int .i64))], [])], cuts := [(12, [(13, .one .adr)], []), (26, [], [])] }) (by rw [show vcFS Tryz.prog W { keep := some [0, 1, 2, 3, 8, 9, 10, 11, 12, 13, 14, 15, 16, 17, 18, 19, 20, 21, 22, 23, 24, 25, 34, 39, 43, 98, 135, 163, 181, 193, 207, 219, 242, 245, 248], track := [18], stages := [(11, [.tree (.rd 0 (.rd 1 (.rd 4 (.rd 6 (.rd 8 (.rd 2 (.rd 3 (.alt 5 (.alt 7 (.alt 9 (.rd 10 (.rd 11 (.alt 12 (.alt 13 (.done) (.no)) (.alt 13 (.alt 12 (.done) (.no)) (.no))))) (.alt 13 (.alt 9 (.rd 10 (.rd 11 (.alt 12 (.done) (.no)))) (.no)) (.no))) (.alt 13 (.alt 7 (.alt 9 (.rd 10 (.rd 11 (.alt 12 (.done) (.no)))) (.no)) (.no)) (.no))) (.alt 13 (.alt 5 (.alt 7 (.alt 9 (.rd 10 (.rd 11 (.alt 12 (.done) (.no)))) (.no)) (.no)) (.no)) (.no)))))))))) 14, .stage [] (some 14)]), (12, [.held [(0, true), (1, true), (3, true), (5, true), (8, true), (9, true), (11, true), (13, true), (2, true), (4, true), (6, true), (10, true), (12, true), (14, true), (7, false)], .stage [] (some 15), .held [(16, true), (17, true), (18, true), (20, true), (19, false)], .stage [] (some 21), .held [(22, true), (23, true), (24, true), (25, true), (27, true), (26, false)], .stage [] (some 28), .held [(29, true), (30, true), (31, true), (32, true), (34, true), (33, false)], .stage [] (some 35), .stage [36, 37, 38, 39] none]), (24, [.held [(0, true), (1, true), (2, true), (3, true), (4, true), (5, true), (6, true), (7, true), (8, true)], .stage [] (some 9), .stage [10, 11] none])], split := [2, 15, 18, 33, 39], loops := [(29, [(24, .one (.bool)), (25, .one (.int .i64))], []), (9, [(12, .one (.int .i64))], [])], cuts := [(12, [(13, .one .adr)], []), (26, [], [])] } F.erratalaw41_LedgerTells #[.slice lP lN lC, .int .i64 time, .slice rowP rowN rowC, .int .i64 no] R Φ J = Cerratalaw41_LedgerTells lP lN lC time rowP rowN rowC no W R Φ J by kernel_rfl]; exact h) c

-- loop at region 4: 7 n, 9 i; blocks 
def Cerrataref41_Ledger_Count (lB lO : Nat) (time : Int) (rowP : Option Addr) (rowN rowC : Nat) (W : World) (R : List Own) (Φ : PW) (J : Value → World → Prop) : Prop :=
  ∀ (w0 : World) (R1 : List Own), Ctx W w0 (R ++ R1) Φ → Calls Tryz.prog F.errataref41_Ledger_History #[Value.pointer (some (Addr.mk lB lO none)), Value.int IntKind.i64 time, Value.slice rowP
  rowN rowC] w0 fun (e2 : Ending) (w3 : World) => ∃ (p4 : Option Addr), ∃ (k5 : Nat), ∃ (k6 : Nat), e2 = Ending.returned (Value.slice p4 k5 k6) ∧ ∃ (R7 : List Own), ∃ (Φ8 : PW), Stable Φ8 ∧
  Ctx W w3 (R7 ++ R1) Φ8 ∧ exI fun (I9 : Int → Int → List Own → PW → Nat → Prop) => (∃ (R10 : List Own), ∃ (Φ11 : PW), ∃ (k12 : Nat), Stable Φ11 ∧ (∀ (w13 : World) (R14 : List Own), Ctx W w13
  (R7 ++ R14) Φ8 → Ctx W w13 (R10 ++ R14) Φ11) ∧ I9 0 0 R10 Φ11 k12) ∧ ∀ (n15 n16 : Int) (R17 : List Own) (I18 : List Nat → World → Prop) (k19 : Nat), Stable I18 → I9 n15 n16 R17 I18 k19 → Br
  (decide (n16 < (↑k5 : Int))) ((0 ≤ n16 ∧ n16 < (↑k5 : Int)) ∧ ptrK none p4 fun (k20 k21 : Nat) => ∀ (w22 : World) (R23 : List Own), Ctx W w22 (R17 ++ R23) I18 → ∃ (n24 : Int), w22.cell?
  (Addr.mk k20 (k21 + n16.toNat * 7 + 4) none) = some (Value.int IntKind.i64 n24) ∧ I64 (n16 + 1) ∧ ∃ (R25 : List Own), ∃ (Φ26 : PW), ∃ (k27 : Nat), Stable Φ26 ∧ (∀ (w28 : World) (R29 : List
  Own), Ctx W w28 (R17 ++ R29) I18 → Ctx W w28 (R25 ++ R29) Φ26) ∧ I9 (IntKind.i64.wrap (n15 + n24)) (n16 + 1) R25 Φ26 k27 ∧ k27 < k19) (∀ (w30 : World) (R31 : List Own), Ctx W w30 (R17 ++
  R31) I18 → J (Value.int IntKind.i64 n15) w30)

theorem Cerrataref41_Ledger_Count_run (lB lO : Nat) (time : Int) (rowP : Option Addr) (rowN rowC : Nat) {W w : World} {R : List Own} {Φ : PW} [Stable Φ] {J : Value → World → Prop} (c : Ctx W w R Φ) (h : Cerrataref41_Ledger_Count lB lO time rowP rowN rowC W R Φ J) : Calls Tryz.prog F.errataref41_Ledger_Count #[.pointer (some ⟨lB, lO, none⟩), .int .i64 time, .slice rowP rowN rowC] w fun e w' => ∃ v, e = .returned v ∧ J v w' :=
  vcFS_sound (H := { keep := some [0, 1, 2, 6, 7, 8, 9, 17], wrap := [26], loops := [(4, [(7, .one (.int .i64)), (9, .one (.int .i64))], [])] }) (by rw [show vcFS Tryz.prog W { keep := some [0, 1, 2, 6, 7, 8, 9, 17], wrap := [26], loops := [(4, [(7, .one (.int .i64)), (9, .one (.int .i64))], [])] } F.errataref41_Ledger_Count #[.pointer (some ⟨lB, lO, none⟩), .int .i64 time, .slice rowP rowN rowC] R Φ J = Cerrataref41_Ledger_Count lB lO time rowP rowN rowC W R Φ J by kernel_rfl]; exact h) c

end Go.Proofs.YtbkpfhhhbhaecaaGreatDoor
end

section
set_option linter.unusedVariables false
set_option linter.unusedSimpArgs false
namespace Go.Proofs.YtbkpfhhhbhaecaaGreatDoor
open Go.Vc


def sumN : List LineD → Int
  | [] => 0
  | x :: l => x.n + sumN l
theorem sumN_app (a b : List LineD) : sumN (a ++ b) = sumN a + sumN b := by
  induction a with
  | nil => simp [sumN]
  | cons x a ih => simp only [List.cons_append, sumN, ih]; omega
theorem sumN_step {l : List LineD} {i : Nat} (h : i < l.length) : sumN (l.take (i + 1)) = sumN (l.take i) + l[i].n := by
  rw [List.take_succ_eq_append_getElem h, sumN_app]
  simp [sumN]
theorem hist_sum (t : Int) (r : List ValD) : ∀ l : List LineD, sumN (histP l t r) = sumK (l.map LineD.d) (t, r)
  | [] => rfl
  | x :: l => by
    have ih := hist_sum t r l
    show sumN ((x :: l).filter (isAt t r)) = (if x.d.key = (t, r) then x.d.n else 0) + sumK (l.map LineD.d) (t, r)
    by_cases h : isAt t r x = true
    · rw [List.filter_cons_of_pos h]
      have h2 := h
      unfold isAt at h2
      rw [Bool.and_eq_true] at h2
      have e : x.d.key = (t, r) := by
        show (x.time, x.row) = (t, r)
        rw [of_decide_eq_true h2.1, of_decide_eq_true h2.2]
      rw [if_pos e]
      show x.n + sumN (histP l t r) = _
      rw [ih]; rfl
    · rw [List.filter_cons_of_neg h]
      have e : ¬ x.d.key = (t, r) := fun e => h (by
        have e1 : x.time = t := congrArg Prod.fst e
        have e2 : x.row = r := congrArg Prod.snd e
        unfold isAt
        rw [decide_eq_true e1, decide_eq_true e2]; rfl)
      rw [if_neg e, Int.zero_add]
      exact ih
structure RefI (bs : List RBat) : Prop where
  s : LedS (ledOf bs)
  v : Inv (ledOf bs)
  m : ∀ i, i ≤ bs.length → Made (ledOf (bs.take i))
theorem RefI.made {bs : List RBat} (h : RefI bs) : Made (ledOf bs) := by
  have := h.m bs.length (Nat.le_refl _)
  rwa [List.take_length] at this
theorem hist_cnt {st : LedD} (hv : Inv st) (hs : LedS st) {t : Int} {r : List ValD} (hf : ∀ v ∈ r, FitV v) (hl : r.length ≤ 1000000) : w64 (sumN (histP st.lines t r)) = cntL st.lines (t, rowB r) := by
  have h1 := sum_cnt (z := ⟨0, 0, t, r, 0, 0, 0⟩) hf hl hv.fit hs.rows
  have h1 : sumK (st.lines.map LineD.d) (t, r) = cntL st.lines (t, rowB r) := h1
  obtain ⟨c1, c2⟩ := hv.cnt (t, rowB r)
  rw [hist_sum, h1, w64_id (by unfold I64; omega)]

section
variable {Φ : PW} {q : RP} {bs : List RBat} {W w : World} {R S G : List Own} {r : Option Addr} {cap : Nat}

theorem rcaused_in [Stable Φ] (x : LineD) (r : Option Addr) (rc : Nat) (mark : Int) : GivesIn Φ Tryz.prog F.errataref41_caused #[x.v r rc, .int .i64 mark] (.bool (causedP x mark)) := by
  refine gives_in (Berrataref41_caused_run x.no x.batch x.time r x.row.length rc x.n x.cause x.why mark) fun W R => fun _ => ?_
  unfold causedP
  refine Br.intro (fun h => fun w G cx => fun w G cx => ⟨by rw [if_pos (of_decide_eq_true h)], cx.left⟩) (fun h => ?_)
  rw [if_neg (of_decide_eq_false h)]
  refine Br.intro (fun h => fun w G cx => fun w G cx => ⟨by rw [if_pos (of_decide_eq_true h)], cx.left⟩) (fun h => fun w G cx => fun w G cx => ⟨?_, cx.left⟩)
  rw [if_neg (of_decide_eq_false h)]
  by_cases h3 : x.cause = 2
  · rw [if_pos h3, decide_eq_true h3, Bool.true_and]
  · rw [if_neg h3, decide_eq_false h3, Bool.false_and]

theorem RCaused_q [Stable Φ] {k : Int} (hq : RefQ q bs) [hF : Has Φ (RF q bs)] : GivesQ (RefO q bs) Φ Tryz.prog F.errataref41_Ledger_Caused #[rled q, .int .i64 k] (.int .i64 (caus (ledOf bs).lines k)) := by
  have hll := hq.lines
  rw [ledOf_lines]
  refine gives_q (Berrataref41_Ledger_Caused_run q.rb 0 k) fun W R => fun w G cx => (RLines_q hq).src cx fun p c cs h1 h2 hth hr st => ?_
  clear cx
  obtain ⟨L, hL⟩ : ∃ L, bs.flatMap RBat.l = L := ⟨_, rfl⟩
  rw [hL] at hll h1 hth hr st ⊢
  have src : Src [] (fun M w => Φ M w ∧ SrcF p L cs M w) p L cs := src_fact hth fun M w h => h.2
  refine exI_mk (fun n iI R' Φ' m => ∃ i : Nat, iI = i ∧ i ≤ L.length ∧ n = caus (L.take i) k ∧ R' = RefO q bs ++ R ∧ Φ' = (fun M w => Φ M w ∧ SrcF p L cs M w) ∧ m = L.length - i) ⟨⟨_, _, _, st, fun w G cx => cx, 0, rfl, Nat.zero_le _, rfl, rfl, rfl, rfl⟩, ?_⟩
  rintro n iI R1 Φ1 m _ ⟨i, rfl, hi, rfl, rfl, rfl, rfl⟩
  refine Br.intro (fun hlt => ?_) (fun hge => fun w G cx => ⟨?_, cx.left.weak fun M w h => h.1⟩)
  · have hlt : i < L.length := by have := of_decide_eq_true hlt; omega
    obtain ⟨b, o, hp⟩ := src.ptr (by omega)
    obtain ⟨a, ac, he, _⟩ := hr i hlt
    have hb := caus_bd (L.take i) k
    rw [List.length_take] at hb
    have hst := caus_step hlt k
    refine ⟨by omega, ptrK_intro b o hp fun w G cx => ⟨L[i].cause, by rw [Int.toNat_natCast]; exact src_at (G := (RefO q bs ++ R) ++ G) src hp cx he 5 (by simp), Br.intro (fun h => ?_) (fun h => ?_)⟩⟩
    · have h := of_decide_eq_true h
      rw [if_pos h] at hst
      exact ⟨by unfold I64; omega, by unfold I64; omega, _, _, L.length - (i + 1), st, fun w G cx => cx, ⟨i + 1, rfl, hlt, hst.symm, rfl, rfl, rfl⟩, by omega⟩
    · have h := of_decide_eq_false h
      rw [if_neg h, Int.add_zero] at hst
      exact ⟨by unfold I64; omega, _, _, L.length - (i + 1), st, fun w G cx => cx, ⟨i + 1, rfl, hlt, hst.symm, rfl, rfl, rfl⟩, by omega⟩
  · have hge : i = L.length := by have := of_decide_eq_false hge; omega
    subst hge
    rw [List.take_length]

set_option maxHeartbeats 1000000 in
theorem RHistory_q [Stable Φ] {t : Int} {rw : List ValD} (hq : RefQ q bs) (hrows : ∀ x ∈ bs.flatMap RBat.l, x.row.length ≤ 1000000) [hF : Has Φ (RF q bs)] [hR : Has Φ (fun M w => Sl M w r rw)] : GivesQSl (RefO q bs) Φ Tryz.prog F.errataref41_Ledger_History #[rled q, .int .i64 t, .slice r rw.length cap] (histP (ledOf bs).lines t rw) := by
  have hll := hq.lines
  rw [ledOf_lines]
  refine gives_qsl (Berrataref41_Ledger_History_run q.rb 0 t r rw.length cap) fun W R => fun w G cx => (RLines_q hq).src cx fun p c cs h1 h2 hth hr st => ?_
  clear cx
  obtain ⟨L, hL⟩ : ∃ L, bs.flatMap RBat.l = L := ⟨_, rfl⟩
  rw [hL] at hll h1 hth hr st hrows ⊢
  have src : Src [] (fun M w => Φ M w ∧ SrcF p L cs M w) p L cs := src_fact hth fun M w h => h.2
  refine exI_mk (fun op on oc iI R' Φ' k => ∃ (i : Nat) (ds : List Value), iI = i ∧ i ≤ L.length ∧ on = ((L.take i).filter (isAt t rw)).length ∧ R' = .buf op on oc ds 51 7 :: (RefO q bs ++ R) ∧ Φ' = (fun M w => (Φ M w ∧ SrcF p L cs M w) ∧ Elems M w ds ((L.take i).filter (isAt t rw))) ∧ k = L.length - i)
    ⟨⟨.buf none 0 0 [] 51 7 :: (RefO q bs ++ R), fun M w => (Φ M w ∧ SrcF p L cs M w) ∧ Elems M w [] ((L.take 0).filter (isAt t rw)), _, inferInstance, fun w G cx => (cx.weak fun M w h => ⟨h, Elems.nil⟩).nobuf 51 7, 0, [], rfl, Nat.zero_le _, rfl, rfl, rfl, rfl⟩, ?_⟩
  rintro op _ oc iI R1 Φ1 k _ ⟨i, ds, rfl, hi, rfl, rfl, rfl, rfl⟩
  have hln : ((L.take i).filter (isAt t rw)).length ≤ i := Nat.le_trans (List.length_filter_le _ _) (by rw [List.length_take]; omega)
  have hst : Stable (fun M w => (Φ M w ∧ SrcF p L cs M w) ∧ Elems M w ds ((L.take i).filter (isAt t rw))) := inferInstance
  refine Br.intro (fun hlt => ?_) (fun hge => fun w G cx => ?_)
  · have hlt : i < L.length := by have := of_decide_eq_true hlt; omega
    obtain ⟨b, o, hp⟩ := src.ptr (by omega)
    obtain ⟨a, ac, he, g1, g2, g3⟩ := hr i hlt
    have htk : (L.take (i + 1)).filter (isAt t rw) = (L.take i).filter (isAt t rw) ++ if isAt t rw L[i] = true then [L[i]] else [] := by
      rw [List.take_succ_eq_append_getElem hlt, List.filter_append]
      congr 1
      by_cases h : isAt t rw L[i] = true
      · rw [if_pos h, List.filter_cons_of_pos h]; rfl
      · rw [if_neg h, List.filter_cons_of_neg h]; rfl
    have hrow : ∀ M w, ((Φ M w ∧ SrcF p L cs M w) ∧ Elems M w ds ((L.take i).filter (isAt t rw))) → Sl M w a L[i].row := fun M w h => src_sl src hlt he h.1
    have hh : Has (fun M w => (Φ M w ∧ SrcF p L cs M w) ∧ Elems M w ds ((L.take i).filter (isAt t rw))) (fun M w => Sl M w a L[i].row) := ⟨hrow⟩
    have rd : ∀ {w : World} {G : List Own}, Ctx W w (.buf op ((L.take i).filter (isAt t rw)).length oc ds 51 7 :: (RefO q bs ++ R) ++ G) (fun M w => (Φ M w ∧ SrcF p L cs M w) ∧ Elems M w ds ((L.take i).filter (isAt t rw))) → RowAt w b (o + i * 7) (L[i].cells a ac) := fun {w G} cx => src_at (S := []) (G := .buf op ((L.take i).filter (isAt t rw)).length oc ds 51 7 :: (RefO q bs ++ R) ++ G) src hp (cx.weak fun M w h => h.1) he
    have same : ¬ isAt t rw L[i] = true → (L.take (i + 1)).filter (isAt t rw) = (L.take i).filter (isAt t rw) := fun h => by rw [htk, if_neg h, List.append_nil]
    refine ⟨by omega, ptrK_intro b o hp fun w G cx => ⟨L[i].time, by rw [Int.toNat_natCast]; exact rd cx 2 (by simp), ?_⟩⟩
    clear cx
    refine Br.intro (fun h4 => ?_) (fun h4 => ?_)
    · refine ⟨by omega, ptrK_intro b o hp fun w G cx => ⟨a, L[i].row.length, ac, by rw [Int.toNat_natCast]; exact rd cx 3 (by simp), fun w G cx => ?_⟩⟩
      refine (Same03r_in (a := L[i].row) (b := rw) (hrows _ (List.getElem_mem hlt))).toB cx ?_
      clear cx
      refine Br.intro (fun h5 => ⟨by omega, ptrK_intro b o hp fun w G cx => ⟨L[i].no, L[i].batch, L[i].time, a, L[i].row.length, ac, L[i].n, L[i].cause, L[i].why, by rw [Int.toNat_natCast]; exact rd cx, fun kb w G cx => ?_⟩⟩) (fun h5 => ?_)
      · have hat : isAt t rw L[i] = true := by unfold isAt; rw [h4, decide_eq_true ((cmpR_cmp.eq _ _).1 (of_decide_eq_true h5))]; rfl
        rw [if_pos hat] at htk
        obtain ⟨p', c', w', hrun, cx'⟩ := pushL (x := L[i]) (PS := fun M w => Φ M w ∧ SrcF p L cs M w) (a := a) (ac := ac) (fun M w h => rep_line g1 g2 g3 (src_sl src hlt he h)) (by omega) cx
        rw [← htk] at hrun cx'
        exact ⟨p', _, c', w', hrun, _, _, @instStableAnd _ _ _ (instStableElems (ds ++ L[i].cells a ac) _), cx', by unfold I64; omega, _, _, L.length - (i + 1), @instStableAnd _ _ _ (instStableElems (ds ++ L[i].cells a ac) _), fun w G cx => cx, ⟨i + 1, _, rfl, hlt, rfl, rfl, rfl, rfl⟩, by omega⟩
      · have h6 := same (by
          unfold isAt
          rw [decide_eq_false (p := L[i].row = rw) (fun e => of_decide_eq_false h5 ((cmpR_cmp.eq _ _).2 e))]; simp)
        exact ⟨by unfold I64; omega, _, _, L.length - (i + 1), hst, fun w G cx => cx, ⟨i + 1, ds, rfl, hlt, by rw [h6], rfl, by rw [h6], rfl⟩, by omega⟩
    · have h6 := same (by unfold isAt; rw [h4]; simp)
      exact ⟨by unfold I64; omega, _, _, L.length - (i + 1), hst, fun w G cx => cx, ⟨i + 1, ds, rfl, hlt, by rw [h6], rfl, by rw [h6], rfl⟩, by omega⟩
  · have hge : i = L.length := by have := of_decide_eq_false hge; omega
    subst hge
    rw [List.take_length] at cx hln ⊢
    obtain ⟨cx3, hsl2, _, k1, k2⟩ := Ctx.freeze (α := LineD) cx.left cx.left.phi.2
    exact ⟨op, oc, rfl, k1, k2, (cx3.add hsl2).weak fun M w h => ⟨h.1.1.1, h.2⟩⟩

theorem RCount_q [Stable Φ] {t : Int} {rw : List ValD} (hq : RefQ q bs) (hi : RefI bs) (hf : ∀ v ∈ rw, FitV v) (hl : rw.length ≤ 1000000) [hF : Has Φ (RF q bs)] [hR : Has Φ (fun M w => Sl M w r rw)] :
    GivesQ (RefO q bs) Φ Tryz.prog F.errataref41_Ledger_Count #[rled q, .int .i64 t, .slice r rw.length cap] (.int .i64 (cntL (ledOf bs).lines (t, rowB rw))) := by
  rw [← hist_cnt hi.v hi.s hf hl]
  have hrows := hi.s.rows
  have hll := hi.s.lines
  refine gives_q (Cerrataref41_Ledger_Count_run q.rb 0 t r rw.length cap) fun W R => fun w G cx => (RHistory_q hq (by rw [← ledOf_lines]; exact hrows)).src cx fun p c cs h1 h2 hth hr st => ?_
  clear cx
  have hlen : (histP (ledOf bs).lines t rw).length ≤ 150000 := Nat.le_trans (List.length_filter_le _ _) hll
  obtain ⟨L, hL⟩ : ∃ L, histP (ledOf bs).lines t rw = L := ⟨_, rfl⟩
  rw [hL] at h1 hth hr st hlen ⊢
  have src : Src [] (fun M w => Φ M w ∧ SrcF p L cs M w) p L cs := src_fact hth fun M w h => h.2
  refine exI_mk (fun n iI R' Φ' m => ∃ i : Nat, iI = i ∧ i ≤ L.length ∧ n = w64 (sumN (L.take i)) ∧ R' = RefO q bs ++ R ∧ Φ' = (fun M w => Φ M w ∧ SrcF p L cs M w) ∧ m = L.length - i) ⟨⟨_, _, _, st, fun w G cx => cx, 0, rfl, Nat.zero_le _, rfl, rfl, rfl, rfl⟩, ?_⟩
  rintro n iI R1 Φ1 m _ ⟨i, rfl, hi2, rfl, rfl, rfl, rfl⟩
  refine Br.intro (fun hlt => ?_) (fun hge => fun w G cx => ⟨?_, cx.left.weak fun M w h => h.1⟩)
  · have hlt : i < L.length := by have := of_decide_eq_true hlt; omega
    obtain ⟨b, o, hp⟩ := src.ptr (by omega)
    obtain ⟨a, ac, he, _⟩ := hr i hlt
    refine ⟨by omega, ptrK_intro b o hp fun w G cx => ⟨L[i].n, by rw [Int.toNat_natCast]; exact src_at (G := (RefO q bs ++ R) ++ G) src hp cx he 4 (by simp), by unfold I64; omega, _, _, L.length - (i + 1), st, fun w G cx => cx, ⟨i + 1, rfl, hlt, ?_, rfl, rfl, rfl⟩, by omega⟩⟩
    show w64 (w64 (sumN (L.take i)) + L[i].n) = _
    rw [w64_l, sumN_step hlt]
  · have hge : i = L.length := by have := of_decide_eq_false hge; omega
    subst hge
    rw [List.take_length]
end
end Go.Proofs.YtbkpfhhhbhaecaaGreatDoor
end

