/-
  Append, walked; a new ledger.
-/
import Derived.Test.YtbkpfhhhbhaecaaDoorSU9
import Derived.Test.YtbkpfhhhbhaecaaDoorSU5
import Derived.Test.YtbkpfhhhbhaecaaDoorSU8
import Derived.Test.YtbkpfhhhbhaecaaDoorSU7
import Derived.Test.YtbkpfhhhbhaecaaDoorSU1

section
set_option linter.unusedVariables false
set_option linter.unusedSimpArgs false
namespace Go.Proofs.YtbkpfhhhbhaecaaDoor
open Go.Vc


/-- the map's value at a key, while nobody writes the map -/
def MapV (mb : Nat) (k : LKey) (n : Int) : PW := fun M w => mb ∉ M ∧ ∃ es clk, w.heap[mb]? = some (mObj es clk) ∧ getM es k = n
instance instStableMapV (mb : Nat) (k : LKey) (n : Int) : Stable (MapV mb k n) := ⟨fun {M M' w w'} hs h => by
  obtain ⟨h1, es, clk, h2, h3⟩ := h
  have hlt : mb < w.heap.size := (Array.getElem?_eq_some_iff.1 h2).1
  refine ⟨fun hm => ?_, es, clk, (hs.chg.block mb hlt h1).trans h2, h3⟩
  rcases hs.sub mb hm with h | h
  · exact h1 h
  · omega⟩

section
variable {Φ : PW} {q : LP} {st : LedD} {W w : World} {R S G : List Own} {p : Option Addr} {cap : Nat} {L : List LineD} {cs : List Value}

abbrev LedXB (q : LP) (st : LedD) (c0 c1 c2 : Int) : List Value := [.slice q.lp st.lines.length q.lc, .slice q.bp st.bats.length q.bc, .map (some q.mb), .int .i64 c0, .int .i64 c1, .int .i64 c2]
abbrev LedX (q : LP) (st : LedD) (c0 c1 c2 : Int) (es : List MEnt) (clk : Nat) : List Own := [.blk q.lb (LedXB q st c0 c1 c2) 117, .buf q.lp st.lines.length q.lc q.cs 81 7, .buf q.bp st.bats.length q.bc (batCells st.bats) 120 3, .obj q.mb (mObj es clk)]

theorem ledx_map {c0 c1 c2 : Int} {es : List MEnt} {clk : Nat} (cx : Ctx W w ((LedX q st c0 c1 c2 es clk ++ R) ++ G) Φ) : w.heap[q.mb]? = some (mObj es clk) := cx.own (.obj q.mb (mObj es clk)) (by simp)
theorem ledx_put [Stable Φ] {c0 c1 c2 : Int} {es : List MEnt} {clk : Nat} (cx : Ctx W w ((LedX q st c0 c1 c2 es clk ++ R) ++ G) Φ) (es1 : List MEnt) (clk1 : Nat) : Ctx W (setB w q.mb (mObj es1 clk1)) ((LedX q st c0 c1 c2 es1 clk1 ++ R) ++ G) Φ := cx.putObj 3 (mObj es1 clk1) rfl
/-- the block and the map's value at a key -/
theorem ledx_val [Stable Φ] {c0 c1 c2 : Int} {es : List MEnt} {clk : Nat} (cx : Ctx W w ((LedX q st c0 c1 c2 es clk ++ R) ++ G) Φ) {k : LKey} {n : Int} (hn : getM es k = n) : Ctx W w ([.blk q.lb (LedXB q st c0 c1 c2) 117] ++ G) (MapV q.mb k n) := by
  have c1 : Ctx W w ([.blk q.lb (LedXB q st c0 c1 c2) 117, .obj q.mb (mObj es clk)] ++ G) Φ := cx.sub (by
    refine List.Sublist.append ?_ (List.Sublist.refl G)
    show List.Sublist _ (_ :: _ :: _ :: _ :: R)
    exact .cons_cons _ (.cons _ (.cons _ (.cons_cons _ (List.nil_sublist _)))))
  have c2 := (Ctx.swap c1).park
  exact c2.weak fun M w h => ⟨(h.2.2 q.mb (by simp [Own.dom])).1, es, clk, h.2.1, hn⟩
theorem ledx_blk [Stable Φ] {c0 c1 c2 : Int} {es : List MEnt} {clk : Nat} (cx : Ctx W w ((LedX q st c0 c1 c2 es clk ++ R) ++ G) Φ) : Ctx W w ([.blk q.lb (LedXB q st c0 c1 c2) 117] ++ G) (fun _ _ => True) := by
  have c1 : Ctx W w ([.blk q.lb (LedXB q st c0 c1 c2) 117] ++ G) Φ := cx.sub (by
    refine List.Sublist.append ?_ (List.Sublist.refl G)
    show List.Sublist _ (_ :: _ :: _ :: _ :: R)
    exact .cons_cons _ (List.nil_sublist _))
  exact c1.weak fun _ _ _ => trivial

/-- one of the three counters goes up -/
def CausTail (lb : Nat) (n30 : Int) (W : World) (R83 : List Own) (Φ84 : PW) (K : List Own → PW → Prop) : Prop :=
  ∃ (R85 : List Own) (Φ86 : PW), Stable Φ86 ∧ (∀ (w : World) (F : List Own), Ctx W w (R83 ++ F) Φ84 → Ctx W w (R85 ++ F) Φ86) ∧ (0 ≤ n30 ∧ n30 < 3) ∧ ∃ n89 : Int,
    (∀ (w : World) (F : List Own), Ctx W w (R85 ++ F) Φ86 → ∃ n92 : Int, w.cell? ⟨lb, 0 + 3 + n30.toNat, none⟩ = some (.int .i64 n92) ∧ Value.int .i64 n92 = .int .i64 n89) ∧ I64 (n89 + 1) ∧ (0 ≤ n30 ∧ n30 < 3) ∧
    ∀ (w : World) (F : List Own), Ctx W w (R83 ++ F) Φ84 → CanWrite w lb (0 + 3 + n30.toNat) 1 ∧ ∀ w95 : World, w95 = w.setCell ⟨lb, 0 + 3 + n30.toNat, none⟩ (.int .i64 (n89 + 1)) → ∃ (R96 : List Own) (Φ97 : PW), Stable Φ97 ∧ Ctx W w95 (R96 ++ F) Φ97 ∧ K R96 Φ97

theorem caus_tail [Stable Φ] {c0 c1 c2 n30 : Int} {es : List MEnt} {clk : Nat} (hc : n30 = 0 ∨ n30 = 1 ∨ n30 = 2) (h0 : 0 ≤ c0 ∧ c0 < 1000000000) (h1 : 0 ≤ c1 ∧ c1 < 1000000000) (h2 : 0 ≤ c2 ∧ c2 < 1000000000) {K : List Own → PW → Prop}
    (hk : K (LedX q st (c0 + if n30 = 0 then 1 else 0) (c1 + if n30 = 1 then 1 else 0) (c2 + if n30 = 2 then 1 else 0) es clk ++ R) Φ) : CausTail q.lb n30 W (LedX q st c0 c1 c2 es clk ++ R) Φ K := by
  rcases hc with rfl | rfl | rfl
  · refine ⟨_, Φ, inferInstance, fun w F c => c, by omega, c0, fun w F c => ⟨c0, c.get 0 rfl rfl, rfl⟩, by unfold I64; omega, by omega, fun w F c => ⟨c.can 0 rfl (by show 3 + 1 ≤ 6; decide), fun w2 e => ⟨LedX q st (c0 + 1) (c1) (c2) es clk ++ R, Φ, inferInstance, c.put 0 e rfl, ?_⟩⟩⟩
    simpa using hk
  · refine ⟨_, Φ, inferInstance, fun w F c => c, by omega, c1, fun w F c => ⟨c1, c.get 0 rfl rfl, rfl⟩, by unfold I64; omega, by omega, fun w F c => ⟨c.can 0 rfl (by show 4 + 1 ≤ 6; decide), fun w2 e => ⟨LedX q st (c0) (c1 + 1) (c2) es clk ++ R, Φ, inferInstance, c.put 0 e rfl, ?_⟩⟩⟩
    simpa using hk
  · refine ⟨_, Φ, inferInstance, fun w F c => c, by omega, c2, fun w F c => ⟨c2, c.get 0 rfl rfl, rfl⟩, by unfold I64; omega, by omega, fun w F c => ⟨c.can 0 rfl (by show 5 + 1 ≤ 6; decide), fun w2 e => ⟨LedX q st (c0) (c1) (c2 + 1) es clk ++ R, Φ, inferInstance, c.put 0 e rfl, ?_⟩⟩⟩
    simpa using hk

theorem bat_app (l : List BatD) (x : BatD) : batCells (l ++ [x]) = batCells l ++ x.cells := by simp [batCells]

set_option maxHeartbeats 4000000 in
theorem Append_use [Stable Φ] {no mark : Int} [hT : Has Φ TabI] [hF : Has Φ (LF q st)] (hq : LedQ q st) (hs : LedS st) (hk : CntOk st) (src : Src [] Φ p L cs) (hlen : L.length ≤ 100000) (hrow : ∀ x ∈ L, x.row.length ≤ 1000000) (htx : ∀ x ∈ L, ∀ v ∈ x.row, v.text.size ≤ 10000)
    (c : Ctx W w ((LedO q st ++ R) ++ G) Φ) {K : Int → List Own → PW → Prop}
    (h0 : checkP st no mark L ≠ 0 → K (checkP st no mark L) (LedO q st ++ R) Φ)
    (h1 : ∀ q', checkP st no mark L = 0 → RowsFit L → q'.lb = q.lb → LedQ q' (appP st no mark L) → Stable (fun M w => Φ M w ∧ LF q' (appP st no mark L) M w) → K 0 (LedO q' (appP st no mark L) ++ R) (fun M w => Φ M w ∧ LF q' (appP st no mark L) M w)) :
    Calls Tryd.prog F.ledger_Ledger_Append #[led q, .int .i64 no, .int .i64 mark, .slice p L.length cap] w fun e w' => ∃ n, e = .returned (.int .i64 n) ∧ ∃ R' Φ', Stable Φ' ∧ Ctx W w' (R' ++ G) Φ' ∧ K n R' Φ' := by
  have hsl := hs.lines
  have hc : Rows7 cs L := rows7 (src.el _ _ c.phi)
  have hfit : RowsFit L := fun x hx v hv => by
    obtain ⟨i, hi, rfl⟩ := List.getElem_of_mem hx
    obtain ⟨r, rc, he, _⟩ := hc i hi
    obtain ⟨g1, g2⟩ := sl_i64 (src_sl src hi he c.phi) v hv
    exact ⟨g1, Nat.le_trans g2 (by decide)⟩
  refine (Bledger_Ledger_Append_run q.lb 0 no mark p L.length cap (R := (LedO q st ++ R) ++ G) (J := fun v w' => ∃ n, v = .int .i64 n ∧ ∃ R' Φ', Stable Φ' ∧ Ctx W w' (R' ++ G) Φ' ∧ K n R' Φ') c ?_).mono fun e w' ⟨v, he, n, hv, rest⟩ => ⟨n, by rw [he, hv], rest⟩
  clear c
  refine fun w G2 cx => (Check_q hq hs hk src (by omega) hrow htx).toI (R := R ++ G) (cx.re (by simp)) ?_
  clear cx
  refine Br.intro (fun h => fun w G2 cx => ⟨_, rfl, _, Φ, inferInstance, (cx.left.re (by simp)), h0 (of_decide_eq_true h)⟩) (fun h => ?_)
  have hz : checkP st no mark L = 0 := Decidable.not_not.1 (of_decide_eq_false h)
  have ac := check_ok hz
  have hap := ac.apart hfit
  have b0 := caus_bd st.lines 0
  have b1 := caus_bd st.lines 1
  have b2 := caus_bd st.lines 2
  refine exI_mk (fun iI R' Φ' k => ∃ (i : Nat) (es : List MEnt) (clk : Nat), iI = i ∧ i ≤ L.length ∧ MapOk es clk ∧ (∀ k, getM es k = cntL st.lines k + cntL (L.take i) k) ∧ R' = LedX q st (caus st.lines 0 + caus (L.take i) 0) (caus st.lines 1 + caus (L.take i) 1) (caus st.lines 2 + caus (L.take i) 2) es clk ++ (R ++ G) ∧ Φ' = Φ ∧ k = L.length - i)
    ⟨⟨LedO q st ++ (R ++ G), Φ, _, inferInstance, fun w G cx => cx, 0, q.es, q.clk, rfl, Nat.zero_le _, hq.map, fun k => by rw [hq.cnt k]; simp [cntL], by simp [caus], rfl, rfl⟩, ?_⟩
  rintro iI R1 Φ1 k _ ⟨i, es, clk, rfl, hi, hmo, hcnt, rfl, rfl, rfl⟩
  have a0 := caus_bd (L.take i) 0
  have a1 := caus_bd (L.take i) 1
  have a2 := caus_bd (L.take i) 2
  rw [List.length_take] at a0 a1 a2
  refine Br.intro (fun hlt => ?_) (fun hge => ?_)
  · have hlt : i < L.length := by have := of_decide_eq_true hlt; omega
    obtain ⟨b, o, hp⟩ := src.ptr (by omega)
    obtain ⟨r, rc, he, g1, g2, g3⟩ := hc i hlt
    have hhi : Has Φ1 (fun M w => Sl M w r L[i].row) := ⟨fun M w h => src_sl src hlt he h⟩
    have hzero := ac.zero hfit hlt
    have hroom := ac.room (List.getElem_mem hlt)
    have hkb := hk L[i].at
    obtain ⟨_, lok⟩ := ac.mem (List.getElem_mem hlt)
    have hca := caused_cause lok.caused
    have hg := hcnt L[i].at
    rw [hzero, Int.add_zero] at hg
    obtain ⟨n0, hn0⟩ : ∃ n0, cntL st.lines L[i].at = n0 := ⟨_, rfl⟩
    rw [hn0] at hg hroom hkb
    obtain ⟨d0, hd0⟩ : ∃ d, caus st.lines 0 + caus (L.take i) 0 = d := ⟨_, rfl⟩
    obtain ⟨d1, hd1⟩ : ∃ d, caus st.lines 1 + caus (L.take i) 1 = d := ⟨_, rfl⟩
    obtain ⟨d2, hd2⟩ : ∃ d, caus st.lines 2 + caus (L.take i) 2 = d := ⟨_, rfl⟩
    rw [hd0, hd1, hd2]
    refine ⟨by omega, ptrK_intro b o hp fun w G2 cx => ⟨L[i].no, L[i].batch, L[i].time, r, L[i].row.length, rc, L[i].n, L[i].cause, L[i].why, by rw [Int.toNat_natCast]; exact src_at (S := []) src hp cx he, fun _ w G2 cx => ?_⟩⟩
    refine at_use L[i] r rc (hrow _ (List.getElem_mem _)) (htx _ (List.getElem_mem _)) cx ?_
    clear cx
    -- what is left, once the map has its entry
    have tail : ∀ (es' : List MEnt) (clk' : Nat), MapOk es' clk' → (∀ k, getM es' k = cntL st.lines k + cntL (L.take (i + 1)) k) → ∀ K : List Own → PW → Prop,
        K (LedX q st (caus st.lines 0 + caus (L.take (i + 1)) 0) (caus st.lines 1 + caus (L.take (i + 1)) 1) (caus st.lines 2 + caus (L.take (i + 1)) 2) es' clk' ++ (R ++ G)) Φ1 → CausTail q.lb L[i].cause W (LedX q st d0 d1 d2 es' clk' ++ (R ++ G)) Φ1 K := fun es' clk' _ _ K hK => by
      refine caus_tail hca (by omega) (by omega) (by omega) ?_
      rw [caus_step hlt, caus_step hlt, caus_step hlt, ← Int.add_assoc, ← Int.add_assoc, ← Int.add_assoc, hd0, hd1, hd2] at hK
      exact hK
    have step : ∀ y : LKey, cntL st.lines y + cntL (L.take (i + 1)) y = if y = L[i].at then n0 + L[i].n else getM es y := fun y => by
      rw [cnt_step hlt, hcnt y]
      by_cases hy : y = L[i].at
      · rw [if_pos hy, hy, hzero, if_pos rfl, hn0]; omega
      · rw [if_neg hy, if_neg (fun e => hy e.symm)]; omega
    refine fun _ => ⟨[.blk q.lb (LedXB q st d0 d1 d2) 117], MapV q.mb L[i].at n0, inferInstance, fun w G2 cx => ledx_val cx hg, some q.mb, fun w G2 cx => ⟨some q.mb, cx.get 0 rfl rfl, rfl⟩, n0, fun w G2 cx => ?_, by unfold I64; omega, fun w G2 cx => ?_⟩
    · obtain ⟨_, es3, clk3, h4, h5⟩ := cx.phi
      exact ⟨n0, fun w2 hw2 => by rw [← h5]; exact run_lookupM keyTy (by rw [hw2]; exact h4) L[i].at, rfl⟩
    obtain ⟨es1, clk1, s, hrun, ok1, hg1, hx1⟩ := run_entryM keyTy hmo (ledx_map cx) L[i].at
    refine ⟨getM es L[i].at, (s : Int), _, hrun, LedX q st d0 d1 d2 es1 clk1 ++ (R ++ G), Φ1, inferInstance, ledx_put cx es1 clk1, fun w G2 cx => ledx_val cx (by rw [hg1]; exact hg), fun w G2 cx => ?_⟩
    obtain ⟨es2, hrun2, ok2, hg2⟩ := run_storeM 114 ok1 hx1 (ledx_map cx) (n0 + L[i].n)
    have hg2' : ∀ y, getM es2 y = cntL st.lines y + cntL (L.take (i + 1)) y := fun y => by rw [hg2 y, step y, hg1]
    have hval : getM es2 L[i].at = n0 + L[i].n := by rw [hg2, if_pos rfl]
    refine ⟨_, hrun2, LedX q st d0 d1 d2 es2 clk1 ++ (R ++ G), Φ1, inferInstance, ledx_put cx es2 clk1, fun w G2 cx => ⟨some q.mb, cx.get 0 rfl rfl, getM es2 L[i].at, fun w2 hw2 => run_lookupM keyTy (by rw [hw2]; exact ledx_map cx) L[i].at, ?_⟩⟩
    clear cx
    rw [hval]
    refine Br.intro (fun h4 => ⟨LedX q st d0 d1 d2 es2 clk1 ++ (R ++ G), Φ1, inferInstance, fun w G2 cx => cx, some q.mb, fun w G2 cx => ⟨some q.mb, cx.get 0 rfl rfl, rfl⟩, fun w G2 cx => ?_⟩) (fun h4 => ?_)
    · have h4 := of_decide_eq_true h4
      obtain ⟨es3, hrun3, ok3, hg3⟩ := run_deleteM keyTy ok2 (ledx_map cx) L[i].at 123 0 #[false, false]
      have hg3' : ∀ y, getM es3 y = cntL st.lines y + cntL (L.take (i + 1)) y := fun y => by
        rw [hg3 y, ← hg2' y, hg2 y]
        by_cases hy : y = L[i].at
        · rw [if_pos hy, if_pos hy]; omega
        · rw [if_neg hy]
      exact ⟨_, hrun3, LedX q st d0 d1 d2 es3 clk1 ++ (R ++ G), Φ1, inferInstance, ledx_put cx es3 clk1, tail es3 clk1 ok3 hg3' _ ⟨by unfold I64; omega, _, Φ1, L.length - (i + 1), inferInstance, fun w G cx => cx, ⟨i + 1, es3, clk1, rfl, hlt, ok3, hg3', rfl, rfl, rfl⟩, by omega⟩⟩
    · exact tail es2 clk1 ok2 hg2' _ ⟨by unfold I64; omega, _, Φ1, L.length - (i + 1), inferInstance, fun w G cx => cx, ⟨i + 1, es2, clk1, rfl, hlt, ok2, hg2', rfl, rfl, rfl⟩, by omega⟩
  have hge : i = L.length := by have := of_decide_eq_false hge; omega
  subst hge
  rw [List.take_length] at hcnt ⊢
  clear a0 a1 a2
  rw [← caus_app, ← caus_app, ← caus_app]
  refine ⟨[.blk q.lb (LedXB q st (caus (st.lines ++ L) 0) (caus (st.lines ++ L) 1) (caus (st.lines ++ L) 2)) 117], (fun _ _ => True), inferInstance, fun w G2 cx => ledx_blk cx, q.lp, st.lines.length, q.lc, fun w G2 cx => ⟨_, _, _, cx.get 0 rfl rfl, rfl⟩, fun w G2 cx => ?_⟩
  refine (Cloned_new (S := (LedX q st (caus (st.lines ++ L) 0) (caus (st.lines ++ L) 1) (caus (st.lines ++ L) 2) es clk ++ (R ++ G)) ++ G2) (Φ := Φ1) (src.app (S := []) (R := (LedX q st (caus (st.lines ++ L) 0) (caus (st.lines ++ L) 1) (caus (st.lines ++ L) 2) es clk ++ (R ++ G)) ++ G2)) (by omega) hrow cx).mono fun e w' ⟨p1, c1, cs1, he, cx⟩ => ?_
  obtain ⟨cx1, hsl1, _, e1, e2⟩ := Ctx.freeze (α := LineD) cx cx.phi.2
  refine ⟨p1, L.length, c1, he, LedX q st (caus (st.lines ++ L) 0) (caus (st.lines ++ L) 1) (caus (st.lines ++ L) 2) es clk ++ (R ++ G), (fun M w => Φ1 M w ∧ Sl M w p1 L), inferInstance, (cx1.add hsl1).weak fun M w h => ⟨h.1.1, h.2⟩, fun w G2 cx => ledx_blk cx, fun w G2 cx => ?_⟩
  obtain ⟨p2, c2, w2, news, hrun, cx3⟩ := Ctx.appAny (P := Tryd.prog) (ts := 57) (ty := 57) (kb := #[false, false]) (bytes := 72) (c2 := c1) (l := L) (q := p1) (Ctx.swap cx) (by kernel_rfl) line_one (fun M w h => h.2) (by omega) (by omega)
  have cx4 := Ctx.swap cx3
  have hel : st.lines.length + L.length = (st.lines ++ L).length := by rw [List.length_append]
  rw [hel] at hrun cx4
  obtain ⟨C0, hC0⟩ : ∃ C0, caus (st.lines ++ L) 0 = C0 := ⟨_, rfl⟩
  obtain ⟨C1, hC1⟩ : ∃ C1, caus (st.lines ++ L) 1 = C1 := ⟨_, rfl⟩
  obtain ⟨C2, hC2⟩ : ∃ C2, caus (st.lines ++ L) 2 = C2 := ⟨_, rfl⟩
  rw [hC0, hC1, hC2] at cx4 ⊢
  -- the lines have moved; the block tells so next
  refine ⟨p2, (st.lines ++ L).length, c2, w2, hrun, .blk q.lb (LedXB q st C0 C1 C2) 117 :: .buf p2 (st.lines ++ L).length c2 (q.cs ++ news) 81 7 :: .buf q.bp st.bats.length q.bc (batCells st.bats) 120 3 :: .obj q.mb (mObj es clk) :: (R ++ G), (fun M w => Φ1 M w ∧ Elems M w (q.cs ++ news) (st.lines ++ L)), inferInstance, cx4.weak fun M w h => ⟨h.1.1, (hF.go M w h.1.1).append h.2⟩, fun w G2 cx => ?_, fun w G2 cx => ⟨cx.can 0 rfl (by show 0 + 1 ≤ 6; decide), fun w4 hw4 => ?_⟩⟩
  · have cy : Ctx W w ([.blk q.lb (LedXB q st C0 C1 C2) 117] ++ G2) (fun M w => Φ1 M w ∧ Elems M w (q.cs ++ news) (st.lines ++ L)) := cx.sub (List.Sublist.append (show List.Sublist _ (_ :: _ :: _ :: _ :: (R ++ G)) from .cons_cons _ (List.nil_sublist _)) (List.Sublist.refl G2))
    exact cy.weak fun _ _ _ => trivial
  have cx5 := cx.put 0 hw4 rfl
  -- the ledger without the batch
  obtain ⟨q1, hq1⟩ : ∃ q1 : LP, q1 = ⟨q.lb, p2, c2, q.cs ++ news, q.bp, q.bc, q.mb, es, clk⟩ := ⟨_, rfl⟩
  have cx6 : Ctx W w4 ((LedX q1 ⟨st.lines ++ L, st.bats⟩ C0 C1 C2 es clk ++ (R ++ G)) ++ G2) (fun M w => Φ1 M w ∧ Elems M w (q.cs ++ news) (st.lines ++ L)) := by rw [hq1]; exact cx5
  have hlb : q.lb = q1.lb := by rw [hq1]
  have hbp : q.bp = q1.bp := by rw [hq1]
  have hbc : q.bc = q1.bc := by rw [hq1]
  refine ⟨LedX q1 ⟨st.lines ++ L, st.bats⟩ C0 C1 C2 es clk ++ (R ++ G), (fun M w => Φ1 M w ∧ Elems M w (q.cs ++ news) (st.lines ++ L)), inferInstance, cx6, ?_⟩
  clear cx6 cx5 cx4 cx3 cx
  rw [hlb]
  refine ⟨[.blk q1.lb (LedXB q1 ⟨st.lines ++ L, st.bats⟩ C0 C1 C2) 117], (fun _ _ => True), inferInstance, fun w G2 cx => ledx_blk cx, q1.bp, st.bats.length, q1.bc, fun w G2 cx => ⟨_, _, _, cx.get 0 rfl rfl, rfl⟩, q1.lp, (st.lines ++ L).length, q1.lc, fun w G2 cx => ⟨_, _, _, cx.get 0 rfl rfl, rfl⟩, fun kb => ⟨fun w G2 cx => ledx_blk (Ctx.drop1 cx), fun w G2 cx => ?_⟩⟩
  have hlen2 := hs.bats
  have cy : Ctx W w (.blk kb [.int .i64 no, .int .i64 mark, .int .i64 ((st.lines ++ L).length : Nat)] 120 :: .buf q1.bp st.bats.length q1.bc (batCells st.bats) 120 3 :: .blk q1.lb (LedXB q1 ⟨st.lines ++ L, st.bats⟩ C0 C1 C2) 117 :: .buf q1.lp (st.lines ++ L).length q1.lc q1.cs 81 7 :: .obj q1.mb (mObj es clk) :: ((R ++ G) ++ G2)) (fun M w => Φ1 M w ∧ Elems M w (q.cs ++ news) (st.lines ++ L)) := cx.perm (List.Perm.cons _ (List.perm_middle (l₁ := [_, _]) (a := _)))
  obtain ⟨p4, c4, w5, hrun5, _, cz⟩ := Ctx.app1 (P := Tryd.prog) (ts := 113) (ty := 113) (kb := #[false, false]) (size := 3) (bytes := 24) cy (by kernel_rfl) (by omega) rfl rfl (by omega) (by omega)
  have hbl : st.bats.length + 1 = (st.bats ++ [(⟨no, mark, (st.lines ++ L).length⟩ : BatD)]).length := by simp
  rw [hbl] at hrun5 cz
  obtain ⟨q2, hq2⟩ : ∃ q2 : LP, q2 = ⟨q1.lb, q1.lp, q1.lc, q1.cs, p4, c4, q1.mb, es, clk⟩ := ⟨_, rfl⟩
  refine ⟨p4, (st.bats ++ [(⟨no, mark, (st.lines ++ L).length⟩ : BatD)]).length, c4, w5, hrun5, .blk q1.lb (LedXB q1 ⟨st.lines ++ L, st.bats⟩ C0 C1 C2) 117 :: .buf q1.lp (st.lines ++ L).length q1.lc q1.cs 81 7 :: .buf p4 (st.bats ++ [(⟨no, mark, (st.lines ++ L).length⟩ : BatD)]).length c4 (batCells (st.bats ++ [⟨no, mark, (st.lines ++ L).length⟩])) 120 3 :: .obj q1.mb (mObj es clk) :: (R ++ G), (fun M w => Φ1 M w ∧ Elems M w (q.cs ++ news) (st.lines ++ L)), inferInstance, ?_, fun w G2 cx => ?_, fun w G2 cx => ⟨cx.can 0 rfl (by show 1 + 1 ≤ 6; decide), fun w6 hw6 => ?_⟩⟩
  · rw [bat_app]
    exact cz.perm (List.perm_middle (l₁ := [_, _]) (a := _)).symm
  · have cy : Ctx W w ([.blk q1.lb (LedXB q1 ⟨st.lines ++ L, st.bats⟩ C0 C1 C2) 117] ++ G2) (fun M w => Φ1 M w ∧ Elems M w (q.cs ++ news) (st.lines ++ L)) := cx.sub (List.Sublist.append (show List.Sublist _ (_ :: _ :: _ :: _ :: (R ++ G)) from .cons_cons _ (List.nil_sublist _)) (List.Sublist.refl G2))
    exact cy.weak fun _ _ _ => trivial
  have cw := cx.put 0 hw6 rfl
  have cw2 : Ctx W w6 ((LedO q2 (appP st no mark L) ++ R) ++ (G ++ G2)) (fun M w => Φ1 M w ∧ LF q2 (appP st no mark L) M w) := by
    rw [hq2]
    unfold appP
    simp only [LedO, LedB, LF, hC0, hC1, hC2]
    rw [hq1] at cw ⊢
    exact cw.re (by simp)
  have hel2 := cw2.phi.2
  have hlq : LedQ q2 (appP st no mark L) := {
    map := by rw [hq2]; exact hmo
    cnt := fun k => by rw [hq2]; show getM es k = cntL (st.lines ++ L) k; rw [cntL_app]; exact hcnt k
    lpt := fun h => by
      obtain ⟨g, hg, _⟩ := cw2.bufCell 1 rfl (by rw [elems_len7 hel2]; omega)
      exact ⟨g, hg⟩
    bpt := fun h => by
      obtain ⟨g, hg, _⟩ := cw2.bufCell 2 rfl (by
        have := (cw2.bufLen 2 rfl).1
        rw [this]; omega)
      exact ⟨g, hg⟩
    lcap := (cw2.bufLen 1 rfl).2
    cells := fun i hi => rows7 hel2 i hi
    len := elems_len7 hel2 }
  exact ⟨LedO q2 (appP st no mark L) ++ (R ++ G), _, inferInstance, cw2.re (by simp), fun w G3 cx => ⟨0, rfl, LedO q2 (appP st no mark L) ++ R, _, inferInstance, (cx.left).re (by simp), h1 q2 hz hfit (by rw [hq2, hq1]) hlq inferInstance⟩⟩
end
end Go.Proofs.YtbkpfhhhbhaecaaDoor
end

/-
  The encoding of a ledger, walked.
-/
section
set_option linter.unusedVariables false
set_option linter.unusedSimpArgs false
namespace Go.Proofs.YtbkpfhhhbhaecaaDoor
open Go.Vc


/-! ### plain -/
def lineB (x : LineD) : ByteArray := intB x.time ++ textB (rowB x.row) ++ intB x.n ++ intB x.cause ++ intB x.why
def linesL (l : List LineD) : List UInt8 := l.flatMap fun x => (lineB x).data.toList
def batB (b : BatD) (s : Nat) : ByteArray := intB b.no ++ intB b.mark ++ natB ((b.stop - s : Nat) : Int)
def begP (l : List BatD) (i : Nat) : Nat := if i = 0 then 0 else (l[i - 1]?.map BatD.stop).getD 0
def segL (st : LedD) (i : Nat) : List UInt8 := match st.bats[i]? with
  | some b => (batB b (begP st.bats i)).data.toList ++ linesL ((st.lines.drop (begP st.bats i)).take (b.stop - begP st.bats i))
  | none => []
def segsL (st : LedD) (n : Nat) : List UInt8 := (List.range n).flatMap (segL st)
def ledL (st : LedD) : List UInt8 := (natB (st.bats.length : Int)).data.toList ++ segsL st st.bats.length
def BatsOk (st : LedD) : Prop := (∀ i (h : i < st.bats.length), begP st.bats i ≤ st.bats[i].stop) ∧ ∀ b ∈ st.bats, I64 b.no ∧ I64 b.mark

theorem linesL_app (a b : List LineD) : linesL (a ++ b) = linesL a ++ linesL b := by simp [linesL]
theorem linesL_one (x : LineD) : linesL [x] = (lineB x).data.toList := by simp [linesL]
theorem segsL_step (st : LedD) (n : Nat) : segsL st (n + 1) = segsL st n ++ segL st n := by simp [segsL, List.range_succ]
theorem begP_succ {l : List BatD} {i : Nat} (h : i < l.length) : begP l (i + 1) = l[i].stop := by
  unfold begP
  rw [if_neg (by omega), Nat.add_sub_cancel, List.getElem?_eq_getElem h]; rfl
/-- lines that can be written -/
structure LineW (x : LineD) : Prop where
  inn : x.In
  val : ∀ v ∈ x.row, (I64 v.kind ∧ I64 v.num) ∧ v.text.size ≤ 300
  row : x.row.length ≤ 13
theorem rowB_small {r : List ValD} (h1 : r.length ≤ 13) (h2 : ∀ v ∈ r, (I64 v.kind ∧ I64 v.num) ∧ v.text.size ≤ 300) : (rowB r).size ≤ 4753 := by
  have hL := rowL_len h2 (by decide) (by omega)
  have : r.length * (300 + 64) ≤ 13 * 364 := Nat.mul_le_mul h1 (Nat.le_refl _)
  unfold rowB
  rw [size_list]; omega
theorem lineB_size {x : LineD} (h : LineW x) : (lineB x).size ≤ 5000 := by
  have h1 := intB_size h.inn.time
  have h2 := intB_size h.inn.n
  have h3 := intB_size h.inn.cause
  have h4 := intB_size h.inn.why
  have h5 := rowB_small h.row h.val
  have h6 := textB_size (s := rowB x.row) (by omega)
  unfold lineB
  rw [size_app, size_app, size_app, size_app]; omega
theorem linesL_len : ∀ {l : List LineD}, (∀ x ∈ l, LineW x) → (linesL l).length ≤ l.length * 5000
  | [], _ => by simp [linesL]
  | x :: l, h => by
    have ih := linesL_len (l := l) fun y hy => h y (by simp [hy])
    have hx := lineB_size (h x (by simp))
    show ((lineB x).data.toList ++ linesL l).length ≤ _
    rw [List.length_append, list_size, List.length_cons, Nat.add_mul]; omega
theorem batB_size {b : BatD} (h1 : I64 b.no) (h2 : I64 b.mark) {s : Nat} (h3 : b.stop ≤ 1000000) : (batB b s).size ≤ 63 := by
  have g1 := intB_size h1
  have g2 := intB_size h2
  have g3 := natB_size (n := ((b.stop - s : Nat) : Int)) (by unfold I64; omega)
  unfold batB
  rw [size_app, size_app]; omega
/-- how long what is written gets: 5000 for each line, 63 for each batch -/
theorem segs_len {st : LedD} (hw : ∀ x ∈ st.lines, LineW x) (hb : BatsOk st) (hs : LedS st) : ∀ i, i ≤ st.bats.length → (segsL st i).length ≤ i * 63 + begP st.bats i * 5000
  | 0, _ => by simp [segsL, begP]
  | i + 1, hi => by
    have ih := segs_len hw hb hs i (by omega)
    have hlt : i < st.bats.length := by omega
    have h1 := hb.1 i hlt
    have h2 := hb.2 st.bats[i] (List.getElem_mem _)
    have h3 := hs.stop st.bats[i] (List.getElem_mem _)
    have h4 := hs.lines
    have g1 := batB_size h2.1 h2.2 (s := begP st.bats i) (by omega)
    have g2 := linesL_len (l := (st.lines.drop (begP st.bats i)).take (st.bats[i].stop - begP st.bats i)) fun x hx => hw x (List.mem_of_mem_drop (List.mem_of_mem_take hx))
    rw [segsL_step, begP_succ hlt, List.length_append]
    unfold segL
    rw [List.getElem?_eq_getElem hlt]
    simp only
    rw [List.length_append, list_size]
    have g3 : ((st.lines.drop (begP st.bats i)).take (st.bats[i].stop - begP st.bats i)).length = st.bats[i].stop - begP st.bats i := by
      rw [List.length_take, List.length_drop]; omega
    rw [g3] at g2
    have : begP st.bats i * 5000 + (st.bats[i].stop - begP st.bats i) * 5000 = st.bats[i].stop * 5000 := by rw [← Nat.add_mul]; congr 1; omega
    omega

section
variable {Φ : PW} {q : LP} {st : LedD} {W w : World} {R S G : List Own}

theorem lines_w (hq : LedQ q st) (hs : LedS st) {M : List Nat} (h : Elems M w q.cs st.lines) : ∀ x ∈ st.lines, LineW x := fun x hx => by
  have hr := hs.row x hx
  have ht := hs.text x hx
  obtain ⟨i, hi, rfl⟩ := List.getElem_of_mem hx
  obtain ⟨p, c, he, _, _, h3⟩ := hq.cells i hi
  exact ⟨h3, fun v hv => ⟨(sl_i64 (led_row h hi he) v hv).1, ht v hv⟩, hr⟩

set_option maxHeartbeats 4000000 in
theorem Bytes_q [Stable Φ] [hT : Has Φ TabI] [hF : Has Φ (LF q st)] (hq : LedQ q st) (hs : LedS st) (hb : BatsOk st) : GivesQ (LedO q st) Φ Tryd.prog F.ledger_Ledger_Bytes #[led q] (.string ⟨(ledL st).toArray⟩) := by
  have hsl := hs.lines
  have hsb := hs.bats
  refine gives_q (Bledger_Ledger_Bytes_run q.lb 0) fun W R => fun b w G cx => ?_
  have hw := lines_w hq hs (hF.go _ _ cx.phi)
  have hlen := segs_len hw hb hs
  have cell1 : ∀ {Q : List Own} {w : World} {G : List Own}, Ctx W w ((Q ++ (LedO q st ++ R)) ++ G) Φ → w.cell? ⟨q.lb, 0 + 1, none⟩ = some (.slice q.bp st.bats.length q.bc) := fun cx => led_cell (i := 1) (Ctx.dropF cx) rfl
  have cell0 : ∀ {Q : List Own} {w : World} {G : List Own}, Ctx W w ((Q ++ (LedO q st ++ R)) ++ G) Φ → w.cell? ⟨q.lb, 0, none⟩ = some (.slice q.lp st.lines.length q.lc) := fun cx => led_cell (i := 0) (Ctx.dropF cx) rfl
  have hnat := natB_size (n := (st.bats.length : Int)) (by unfold I64; omega)
  refine ⟨_, _, _, led_cell (i := 1) (Ctx.drop1 cx) rfl, fun w G cx => (Num_in (.inl ⟨hT.go, by unfold I64; omega⟩)).toS cx fun w G cx => ?_⟩
  refine WriteString_use (natB (st.bats.length : Int)) Bd.nil (Bd.fresh cx) (by simp only [List.length_nil]; omega) fun R1 w hB cx => ⟨_, _, rfl, R1 ++ (LedO q st ++ R), Φ, inferInstance, by rw [List.append_assoc]; exact cx, ?_⟩
  rw [List.nil_append] at hB
  clear cx
  refine fun w G cx => ⟨_, _, _, cell1 cx, ?_⟩
  clear cx
  refine exI_mk (fun sI iI R' Φ' k => ∃ (i : Nat) (Q : List Own), iI = i ∧ i ≤ st.bats.length ∧ sI = (begP st.bats i : Nat) ∧ BdT b ((natB (st.bats.length : Int)).data.toList ++ segsL st i) Q ∧ R' = Q ++ (LedO q st ++ R) ∧ Φ' = Φ ∧ k = st.bats.length - i) ⟨⟨_, _, _, inferInstance, fun w G cx => cx, 0, R1, rfl, Nat.zero_le _, rfl, by rw [show segsL st 0 = [] from rfl, List.append_nil]; exact hB, rfl, rfl, rfl⟩, ?_⟩
  clear hB
  rintro sI iI R2 Φ2 k _ ⟨i, Q, rfl, hi, rfl, hQ, rfl, rfl, rfl⟩
  refine Br.intro (fun hlt => ?_) (fun hge => fun w G cx => ?_)
  · have hlt : i < st.bats.length := by have := of_decide_eq_true hlt; omega
    obtain ⟨g, hg⟩ := hq.bpt (by omega)
    have hbe := hb.1 i hlt
    obtain ⟨hn1, hn2⟩ := hb.2 st.bats[i] (List.getElem_mem _)
    have hst := hs.stop st.bats[i] (List.getElem_mem _)
    have hli := hlen i hi
    have g1 := intB_size hn1
    have g2 := intB_size hn2
    have hbs := begP_succ hlt
    obtain ⟨s, hss⟩ : ∃ s, begP st.bats i = s := ⟨_, rfl⟩
    have hseg : segL st i = (batB st.bats[i] s).data.toList ++ linesL ((st.lines.drop s).take (st.bats[i].stop - s)) := by
      unfold segL
      rw [List.getElem?_eq_getElem hlt, ← hss]
    have hsz := batB_size hn1 hn2 (s := s) (by omega)
    rw [hss] at hbe hli ⊢
    obtain ⟨e, hee⟩ : ∃ e, st.bats[i].stop = e := ⟨_, rfl⟩
    have g3 := natB_size (n := ((e - s : Nat) : Int)) (by unfold I64; omega)
    refine ⟨by omega, ptrK_intro g 0 hg fun w G cx => ⟨st.bats[i].no, st.bats[i].mark, (st.bats[i].stop : Int), by rw [Int.toNat_natCast]; exact led_bat (Ctx.dropF cx) hg hlt, fun _ => ⟨Q ++ (LedO q st ++ R), Φ2, inferInstance, fun w G cx => cx, by unfold I64; omega, fun w G cx => ?_⟩⟩⟩
    rw [hee] at hbe hst hseg hbs ⊢
    rw [show ((e : Nat) : Int) - ((s : Nat) : Int) = ((e - s : Nat) : Int) by omega]
    refine (Int_in (.inl ⟨hT.go, hn1⟩)).toS cx ⟨fun w G cx => cx, fun w G cx => (Int_in (.inl ⟨hT.go, hn2⟩)).toS cx ⟨fun w G cx => cx, by show (intB st.bats[i].no).size + (intB st.bats[i].mark).size ≤ _; omega, fun w G cx => (Num_in (.inl ⟨hT.go, by unfold I64; omega⟩)).toS cx ⟨fun w G cx => cx, by show (intB st.bats[i].no ++ intB st.bats[i].mark).size + (natB ((e - s : Nat) : Int)).size ≤ _; rw [size_app]; omega, fun w G cx => ?_⟩⟩⟩
    have hbB : batB st.bats[i] s = intB st.bats[i].no ++ intB st.bats[i].mark ++ natB ((e - s : Nat) : Int) := by unfold batB; rw [hee]
    rw [← hbB]
    have hbud : i * 63 + s * 5000 ≤ 100000 * 63 + 100000 * 5000 := Nat.add_le_add (Nat.mul_le_mul_right _ (by omega)) (Nat.mul_le_mul_right _ (by omega))
    refine WriteString_use (batB st.bats[i] s) hQ (cx.re (List.append_assoc _ _ _)) (by rw [List.length_append, list_size]; omega) fun Q2 w hQ2 cx => ⟨_, _, rfl, Q2 ++ (LedO q st ++ R), Φ2, inferInstance, by rw [List.append_assoc]; exact cx, ?_⟩
    clear cx
    have hlc := hq.lcap.1
    refine fun w G cx => ⟨_, _, _, cell0 cx, ⟨by omega, by omega, by omega⟩, ?_⟩
    have hsrc := src_led (Φ := Φ2) hq hF.go s (e - s) (by omega)
    have hcel := rows7 (hsrc.el _ _ cx.phi)
    clear cx
    rw [Int.toNat_natCast, Int.toNat_natCast]
    obtain ⟨L, hL⟩ : ∃ L, (st.lines.drop s).take (e - s) = L := ⟨_, rfl⟩
    have hLn : L.length = e - s := by rw [← hL, List.length_take, List.length_drop]; omega
    have hLw : ∀ x ∈ L, LineW x := fun x hx => hw x (by rw [← hL] at hx; exact List.mem_of_mem_drop (List.mem_of_mem_take hx))
    rw [hL] at hsrc hcel hseg
    obtain ⟨pre, hpre⟩ : ∃ pre, (natB (st.bats.length : Int)).data.toList ++ segsL st i ++ (batB st.bats[i] s).data.toList = pre := ⟨_, rfl⟩
    have hprel : pre.length ≤ 1000000000 := by rw [← hpre, List.length_append, List.length_append, list_size, list_size]; omega
    rw [hpre] at hQ2
    refine exI_mk (fun jI R' Φ' k => ∃ (j : Nat) (Q : List Own), jI = j ∧ j ≤ L.length ∧ BdT b (pre ++ linesL (L.take j)) Q ∧ R' = Q ++ (LedO q st ++ R) ∧ Φ' = Φ2 ∧ k = L.length - j) ⟨⟨_, _, _, inferInstance, fun w G cx => cx, 0, Q2, rfl, Nat.zero_le _, by rw [List.take_zero, show linesL [] = [] from rfl, List.append_nil]; exact hQ2, rfl, rfl, rfl⟩, ?_⟩
    clear hQ2
    rintro jI R3 Φ3 k3 _ ⟨j, Q3, rfl, hj, hQ3, rfl, rfl, rfl⟩
    refine Br.intro (fun hlt2 => ?_) (fun hge2 => ⟨by unfold I64; omega, _, Φ3, st.bats.length - (i + 1), inferInstance, fun w G cx => cx, ⟨i + 1, Q3, by omega, hlt, by rw [hbs], ?_, rfl, rfl, rfl⟩, by omega⟩)
    · have hlt2 : j < L.length := by have := of_decide_eq_true hlt2; omega
      obtain ⟨bb, oo, hp⟩ := hsrc.ptr (by omega)
      obtain ⟨r, rc, he, k1, k2, k3⟩ := hcel j hlt2
      have hlw := hLw L[j] (List.getElem_mem _)
      have hrs := rowB_small hlw.row hlw.val
      have s1 := intB_size hlw.inn.time
      have s2 := intB_size hlw.inn.n
      have s3 := intB_size hlw.inn.cause
      have s4 := intB_size hlw.inn.why
      have s5 := textB_size (s := rowB L[j].row) (by omega)
      have hlB := lineB_size hlw
      have hpl := linesL_len (l := L.take j) fun x hx => hLw x (List.mem_of_mem_take hx)
      rw [List.length_take] at hpl
      have hpl2 : min j L.length * 5000 ≤ 100000 * 5000 := Nat.mul_le_mul_right _ (by omega)
      have hstep : linesL (L.take (j + 1)) = linesL (L.take j) ++ (lineB L[j]).data.toList := by rw [List.take_succ_eq_append_getElem hlt2, linesL_app, linesL_one]
      refine ⟨by omega, ptrK_intro bb oo hp fun w G cx => ⟨L[j].no, L[j].batch, L[j].time, r, L[j].row.length, rc, L[j].n, L[j].cause, L[j].why, by rw [Int.toNat_natCast]; exact src_at (S := LedO q st) (G := R ++ G) hsrc hp ((Ctx.dropF cx).re (List.append_assoc _ _ _)) he, fun _ => ⟨Q3 ++ (LedO q st ++ R), Φ3, inferInstance, fun w G cx => cx, fun w G cx => ?_⟩⟩⟩
      refine (Int_in (.inl ⟨hT.go, hlw.inn.time⟩)).toS cx ⟨fun w G cx => cx, fun w G cx => (RowBytes_in r rc L[j].row hT.go (fun M w h => src_sl hsrc hlt2 he h) (by have := hlw.row; omega) (fun v hv => by have := (hlw.val v hv).2; omega)).toS cx ⟨fun w G cx => cx, fun w G cx => (Text_in (.inl ⟨hT.go, by unfold I64; omega⟩) (by omega)).toS cx ⟨fun w G cx => cx, by show (intB L[j].time).size + (textB (rowB L[j].row)).size ≤ _; omega, fun w G cx => (Int_in (.inl ⟨hT.go, hlw.inn.n⟩)).toS cx ⟨fun w G cx => cx, by show (intB L[j].time ++ textB (rowB L[j].row)).size + (intB L[j].n).size ≤ _; rw [size_app]; omega, fun w G cx => (Int_in (.inl ⟨hT.go, hlw.inn.cause⟩)).toS cx ⟨fun w G cx => cx, by show (intB L[j].time ++ textB (rowB L[j].row) ++ intB L[j].n).size + (intB L[j].cause).size ≤ _; rw [size_app, size_app]; omega, fun w G cx => (Int_in (.inl ⟨hT.go, hlw.inn.why⟩)).toS cx ⟨fun w G cx => cx, by show (intB L[j].time ++ textB (rowB L[j].row) ++ intB L[j].n ++ intB L[j].cause).size + (intB L[j].why).size ≤ _; rw [size_app, size_app, size_app]; omega, fun w G cx => ?_⟩⟩⟩⟩⟩⟩
      refine WriteString_use (lineB L[j]) hQ3 (cx.re (List.append_assoc _ _ _)) (by rw [List.length_append]; omega) fun Q4 w hQ4 cx => ⟨_, _, rfl, Q4 ++ (LedO q st ++ R), Φ3, inferInstance, by rw [List.append_assoc]; exact cx, by unfold I64; omega, _, Φ3, L.length - (j + 1), inferInstance, fun w G cx => cx, ⟨j + 1, Q4, by omega, hlt2, ?_, rfl, rfl, rfl⟩, by omega⟩
      rw [hstep, ← List.append_assoc]; exact hQ4
    · have hge2 : j = L.length := by have := of_decide_eq_false hge2; omega
      subst hge2
      rw [List.take_length] at hQ3
      rw [segsL_step, hseg, ← List.append_assoc, ← List.append_assoc, hpre]
      exact hQ3
  · have hge : i = st.bats.length := by have := of_decide_eq_false hge; omega
    subst hge
    exact String_use hQ (cx.re (List.append_assoc _ _ _)) fun w cx => ⟨_, rfl, LedO q st ++ R, Φ2, inferInstance, cx, fun w G cx => ⟨rfl, cx.left⟩⟩
end
end Go.Proofs.YtbkpfhhhbhaecaaDoor
end

/-
  Ints: a sort of few, and the other functions on lists of ints, walked.
-/
section
set_option linter.unusedVariables false
set_option linter.unusedSimpArgs false
namespace Go.Proofs.YtbkpfhhhbhaecaaDoor
open Go.Vc


abbrev intv (x : Int) : Value := .int .i64 x
abbrev bufZ (p : Option Addr) (cap : Nat) (zs : List Int) : Own := .buf p zs.length cap (zs.map intv) 3 1
abbrev leZ (c : Int → Int → Int) (x y : Int) : Prop := c x y ≤ 0
def CmpZ (Φ : PW) (f : FuncId) (cp : Array Value) (c : Int → Int → Int) (G : Int → Prop) : Prop := okFun Tryd.prog f = true ∧ ∀ x y : Int, G x → G y → GivesIn Φ Tryd.prog f (Array.mk (intv x :: intv y :: cp.toList)) (.int .i64 (c x y))

section
variable {W w w' : World} {S : List Own} {Φ : PW} {p : Option Addr} {g cap : Nat} {zs : List Int} {i : Nat} {x : Int}
end

/-! ### insertionSort -/
/-! ### a stable sort of few -/
end Go.Proofs.YtbkpfhhhbhaecaaDoor
end

/-
  Places, in plain Lean.
-/
section
set_option linter.unusedVariables false
set_option linter.unusedSimpArgs false
namespace Go.Proofs.YtbkpfhhhbhaecaaDoor
open Go.Vc


/-! ### counting -/
def shareP (p : List Int) (w : Nat) : Nat := p.count (w : Int)
def sumF (f : Nat → Nat) : Nat → Nat
  | 0 => 0
  | n + 1 => sumF f n + f n
theorem sumF_congr {f g : Nat → Nat} : ∀ {n : Nat}, (∀ i, i < n → f i = g i) → sumF f n = sumF g n
  | 0, _ => rfl
  | n + 1, h => by rw [sumF, sumF, sumF_congr (n := n) fun i hi => h i (by omega), h n (by omega)]
theorem sumF_le {f g : Nat → Nat} : ∀ {n : Nat}, (∀ i, i < n → f i ≤ g i) → sumF f n ≤ sumF g n
  | 0, _ => Nat.le_refl _
  | n + 1, h => Nat.add_le_add (sumF_le (n := n) fun i hi => h i (by omega)) (h n (by omega))
theorem sumF_add (f g : Nat → Nat) : ∀ n : Nat, sumF (fun i => f i + g i) n = sumF f n + sumF g n
  | 0 => rfl
  | n + 1 => by simp only [sumF, sumF_add f g n]; omega
theorem sumF_const (k : Nat) : ∀ n : Nat, sumF (fun _ => k) n = n * k
  | 0 => by simp [sumF]
  | n + 1 => by simp only [sumF, sumF_const k n, Nat.add_mul]; omega
/-- one term changes -/
theorem sumF_set {f g : Nat → Nat} {w : Nat} : ∀ {n : Nat}, w < n → (∀ i, i ≠ w → g i = f i) → sumF g n + f w = sumF f n + g w
  | 0, h, _ => by omega
  | n + 1, h, hg => by
    simp only [sumF]
    by_cases hn : w = n
    · subst hn
      rw [sumF_congr (f := g) (g := f) fun i hi => hg i (by omega)]; omega
    · have := sumF_set (n := n) (by omega) hg
      rw [hg n (by omega)]; omega
theorem sumF_pos {f : Nat → Nat} : ∀ {n : Nat}, 0 < sumF f n → ∃ i, i < n ∧ 0 < f i
  | 0, h => by simp [sumF] at h
  | n + 1, h => by
    simp only [sumF] at h
    by_cases hf : 0 < f n
    · exact ⟨n, by omega, hf⟩
    · obtain ⟨i, hi, h2⟩ := sumF_pos (f := f) (n := n) (by omega)
      exact ⟨i, by omega, h2⟩
/-- values below n: the shares add up to the length -/
theorem count_sum {n : Nat} : ∀ {p : List Int}, (∀ x ∈ p, 0 ≤ x ∧ x < n) → sumF (shareP p) n = p.length
  | [], _ => by
    exact (sumF_congr (g := fun _ => 0) fun i _ => rfl).trans (by rw [sumF_const]; rfl)
  | x :: p, h => by
    obtain ⟨h1, h2⟩ := h x (by simp)
    have ih := count_sum (n := n) (p := p) fun y hy => h y (by simp [hy])
    obtain ⟨m, rfl⟩ : ∃ m : Nat, x = (m : Int) := ⟨x.toNat, by omega⟩
    have h3 := sumF_set (f := shareP p) (g := shareP ((m : Int) :: p)) (w := m) (n := n) (by omega) fun i hi => by
      unfold shareP
      rw [List.count_cons_of_ne (by omega)]
    have h4 : shareP ((m : Int) :: p) m = shareP p m + 1 := by unfold shareP; rw [List.count_cons_self]
    rw [List.length_cons]; omega
/-! ### keeping what there is room for -/
/-- one bucket after the other: kept if its worker is there and has room -/
def keepG (W : Nat) : List Int → (Nat → Nat) → List Bool × (Nat → Nat)
  | [], room => ([], room)
  | x :: p, room =>
    if x < W ∧ 0 < room x.toNat then (true :: (keepG W p (fun i => if i = x.toNat then room i - 1 else room i)).1, (keepG W p (fun i => if i = x.toNat then room i - 1 else room i)).2)
    else (false :: (keepG W p room).1, (keepG W p room).2)
/-- how many are kept at a worker -/
def keptAt : List Int → List Bool → Nat → Nat
  | x :: p, c :: fl, w => (if c = true ∧ x = (w : Int) then 1 else 0) + keptAt p fl w
  | _, _, _ => 0

theorem keepG_len (W : Nat) : ∀ (p : List Int) (room : Nat → Nat), (keepG W p room).1.length = p.length
  | [], _ => rfl
  | x :: p, room => by
    unfold keepG
    split
    · simp only [List.length_cons, keepG_len W p]
    · simp only [List.length_cons, keepG_len W p]
theorem keepG_room (W : Nat) : ∀ (p : List Int) (room : Nat → Nat), (∀ x ∈ p, 0 ≤ x) → ∀ w, w < W → (keepG W p room).2 w = room w - shareP p w
  | [], room, _, w, _ => by simp [keepG, shareP]
  | x :: p, room, h, w, hw => by
    have h0 := h x (by simp)
    have ih := fun r => keepG_room W p r (fun y hy => h y (by simp [hy])) w hw
    have hc : shareP (x :: p) w = shareP p w + if x = (w : Int) then 1 else 0 := by
      unfold shareP
      rw [List.count_cons]
      congr 1
      by_cases hx : x = (w : Int)
      · simp [hx]
      · simp [hx]
    unfold keepG
    split
    · rename_i hk
      simp only
      rw [ih, hc]
      by_cases hx : x = (w : Int)
      · rw [if_pos (by omega), if_pos hx]; omega
      · rw [if_neg (by omega), if_neg hx]; omega
    · rename_i hk
      simp only
      rw [ih, hc]
      by_cases hx : x = (w : Int)
      · rw [if_pos hx]
        have : room w = 0 := by
          subst hx
          rw [Int.toNat_natCast] at hk
          omega
        omega
      · rw [if_neg hx]; omega
theorem keepG_at (W : Nat) : ∀ (p : List Int) (room : Nat → Nat), (∀ x ∈ p, 0 ≤ x) → ∀ w, w < W → keptAt p (keepG W p room).1 w + (keepG W p room).2 w = room w
  | [], room, _, w, _ => by simp [keepG, keptAt]
  | x :: p, room, h, w, hw => by
    have h0 := h x (by simp)
    have ih := fun r => keepG_at W p r (fun y hy => h y (by simp [hy])) w hw
    unfold keepG
    split
    · rename_i hk
      simp only [keptAt]
      have := ih (fun i => if i = x.toNat then room i - 1 else room i)
      by_cases hx : x = (w : Int)
      · rw [if_pos ⟨trivial, hx⟩]
        subst hx
        rw [Int.toNat_natCast] at hk this ⊢
        rw [if_pos rfl] at this
        omega
      · rw [if_neg (fun h => hx h.2)]
        rw [if_neg (by omega)] at this
        omega
    · simp only [keptAt]
      rw [if_neg (fun h => by cases h.1), Nat.zero_add]
      exact ih room
/-- what is not kept has no worker, or one that is full -/
theorem keepG_not (W : Nat) : ∀ (p : List Int) (room : Nat → Nat), (∀ x ∈ p, 0 ≤ x) → ∀ j (hj : j < p.length), (keepG W p room).1[j]? = some false → (W : Int) ≤ p[j] ∨ (keepG W p room).2 p[j].toNat = 0
  | [], _, _, j, hj, _ => by simp at hj
  | x :: p, room, h, j, hj, hf => by
    have h0 := h x (by simp)
    have hp : ∀ y ∈ p, 0 ≤ y := fun y hy => h y (by simp [hy])
    unfold keepG at hf ⊢
    split at hf
    · rename_i hk
      rw [if_pos hk]
      simp only at hf ⊢
      cases j with
      | zero => simp at hf
      | succ j => exact keepG_not W p _ hp j (by simpa using hj) (by simpa using hf)
    · rename_i hk
      rw [if_neg hk]
      simp only at hf ⊢
      cases j with
      | zero =>
        simp only [List.getElem_cons_zero]
        by_cases hx : x < W
        · right
          have hr := keepG_room W p room hp x.toNat (by omega)
          have : room x.toNat = 0 := by omega
          omega
        · left; omega
      | succ j => exact keepG_not W p _ hp j (by simpa using hj) (by simpa using hf)
theorem keepG_yes (W : Nat) : ∀ (p : List Int) (room : Nat → Nat) (j : Nat) (hj : j < p.length), (keepG W p room).1[j]? = some true → p[j] < (W : Int)
  | [], _, j, hj, _ => by simp at hj
  | x :: p, room, j, hj, hf => by
    unfold keepG at hf
    split at hf
    · rename_i hk
      simp only at hf
      cases j with
      | zero => exact hk.1
      | succ j => exact keepG_yes W p _ j (by simpa using hj) (by simpa using hf)
    · simp only at hf
      cases j with
      | zero => simp at hf
      | succ j => exact keepG_yes W p _ j (by simpa using hj) (by simpa using hf)

/-- the first worker with room -/
def firstG (room : Nat → Nat) : Nat → Nat → Nat
  | 0, i => i
  | n + 1, i => if 0 < room i then i else firstG room n (i + 1)
theorem firstG_spec (room : Nat → Nat) : ∀ (n i : Nat), (∃ j, i ≤ j ∧ j < i + n ∧ 0 < room j) → i ≤ firstG room n i ∧ firstG room n i < i + n ∧ 0 < room (firstG room n i)
  | 0, i, h => by obtain ⟨j, h1, h2, _⟩ := h; omega
  | n + 1, i, h => by
    unfold firstG
    split
    · rename_i h0
      exact ⟨Nat.le_refl _, by omega, h0⟩
    · rename_i h0
      obtain ⟨j, h1, h2, h3⟩ := h
      have : i ≠ j := fun e => h0 (by rw [e]; exact h3)
      have := firstG_spec room n (i + 1) ⟨j, by omega, by omega, h3⟩
      omega

/-- the others are given to the first worker with room -/
def fillG (W : Nat) : List Int → List Bool → (Nat → Nat) → List Int
  | x :: p, true :: fl, room => x :: fillG W p fl room
  | _ :: p, false :: fl, room => (firstG room W 0 : Int) :: fillG W p fl (fun i => if i = firstG room W 0 then room i - 1 else room i)
  | _, _, _ => []
def missing (fl : List Bool) : Nat := fl.count false

theorem fillG_len (W : Nat) : ∀ (p : List Int) (fl : List Bool) (room : Nat → Nat), fl.length = p.length → (fillG W p fl room).length = p.length
  | [], [], _, _ => rfl
  | [], _ :: _, _, h => by simp at h
  | _ :: _, [], _, h => by simp at h
  | x :: p, true :: fl, room, h => by simp only [fillG, List.length_cons, fillG_len W p fl room (by simpa using h)]
  | x :: p, false :: fl, room, h => by simp only [fillG, List.length_cons, fillG_len W p fl _ (by simpa using h)]

theorem room_step {W : Nat} {room : Nat → Nat} {m : Nat} (h : sumF room W = m + 1) : firstG room W 0 < W ∧ 0 < room (firstG room W 0) ∧ sumF (fun i => if i = firstG room W 0 then room i - 1 else room i) W = m := by
  obtain ⟨j, h1, h2⟩ := sumF_pos (f := room) (n := W) (by omega)
  obtain ⟨_, g1, g2⟩ := firstG_spec room W 0 ⟨j, by omega, by omega, h2⟩
  have hs := sumF_set (f := room) (g := fun i => if i = firstG room W 0 then room i - 1 else room i) (w := firstG room W 0) (n := W) (by omega) fun i hi => if_neg hi
  simp only [if_true] at hs
  exact ⟨by omega, g2, by omega⟩

theorem fillG_at (W : Nat) : ∀ (p : List Int) (fl : List Bool) (room : Nat → Nat), fl.length = p.length → sumF room W = missing fl → ∀ j (hj : j < p.length), (fl[j]? = some true → (fillG W p fl room)[j]? = some p[j]) ∧ (fl[j]? = some false → ∃ w : Nat, w < W ∧ 0 < room w ∧ (fillG W p fl room)[j]? = some (w : Int))
  | [], _, _, _, _, j, hj => by simp at hj
  | _ :: _, [], _, h, _, _, _ => by simp at h
  | x :: p, true :: fl, room, h, hs, j, hj => by
    have hm : missing (true :: fl) = missing fl := by simp [missing]
    cases j with
    | zero => exact ⟨fun _ => rfl, fun h => by simp at h⟩
    | succ j =>
      have ih := fillG_at W p fl room (by simpa using h) (by rw [hs, hm]) j (by simpa using hj)
      simpa [fillG] using ih
  | x :: p, false :: fl, room, h, hs, j, hj => by
    have hm : missing (false :: fl) = missing fl + 1 := by simp [missing]
    obtain ⟨g1, g2, g3⟩ := room_step (room := room) (W := W) (m := missing fl) (by rw [hs, hm])
    cases j with
    | zero => exact ⟨fun h => by simp at h, fun _ => ⟨firstG room W 0, g1, g2, rfl⟩⟩
    | succ j =>
      have ih := fillG_at W p fl _ (by simpa using h) g3 j (by simpa using hj)
      refine ⟨by simpa [fillG] using ih.1, fun hf => ?_⟩
      obtain ⟨w, h1, h2, h3⟩ := ih.2 (by simpa using hf)
      refine ⟨w, h1, ?_, by simpa [fillG] using h3⟩
      split at h2 <;> omega

end Go.Proofs.YtbkpfhhhbhaecaaDoor
end

/-
  Spreading, in plain Lean.
-/
section
set_option linter.unusedVariables false
set_option linter.unusedSimpArgs false
namespace Go.Proofs.YtbkpfhhhbhaecaaDoor
open Go.Vc


theorem sumF_mem {n : Nat} : ∀ {l : List Nat}, l.Nodup → (∀ x ∈ l, x < n) → sumF (fun w => if w ∈ l then 1 else 0) n = l.length
  | [], _, _ => by
    refine (sumF_congr (g := fun _ => 0) fun i _ => ?_).trans (by rw [sumF_const]; rfl)
    simp
  | x :: l, hd, h => by
    have hx := List.nodup_cons.1 hd
    have ih := sumF_mem (n := n) hx.2 fun y hy => h y (by simp [hy])
    have h2 := sumF_set (f := fun w => if w ∈ l then 1 else 0) (g := fun w => if w ∈ x :: l then 1 else 0) (w := x) (n := n) (h x (by simp)) fun i hi => by simp [hi]
    simp only [List.mem_cons, true_or, if_true] at h2
    rw [if_neg hx.1] at h2
    rw [List.length_cons]
    simp only [List.mem_cons]
    omega

/-- the most often chosen ones get one more -/
def evenRoom (W : Nat) (ord : List Nat) (w : Nat) : Nat := 16 / W + if w ∈ ord.take (16 % W) then 1 else 0
structure OrdOf (p : List Int) (W : Nat) (ord : List Nat) : Prop where
  perm : ord.Perm (List.range W)
  desc : ord.Pairwise fun a b => shareP p b ≤ shareP p a

theorem OrdOf.nodup {p : List Int} {W : Nat} {ord : List Nat} (h : OrdOf p W ord) : ord.Nodup := h.perm.nodup_iff.2 List.nodup_range
theorem OrdOf.mem {p : List Int} {W : Nat} {ord : List Nat} (h : OrdOf p W ord) {w : Nat} : w ∈ ord ↔ w < W := by rw [h.perm.mem_iff, List.mem_range]
theorem OrdOf.len {p : List Int} {W : Nat} {ord : List Nat} (h : OrdOf p W ord) : ord.length = W := by rw [h.perm.length_eq, List.length_range]

theorem extra_sum {p : List Int} {W : Nat} {ord : List Nat} (h : OrdOf p W ord) (hW : 0 < W) : sumF (fun w => if w ∈ ord.take (16 % W) then 1 else 0) W = 16 % W := by
  rw [sumF_mem (h.nodup.sublist (List.take_sublist _ _)) fun x hx => h.mem.1 (List.mem_of_mem_take hx), List.length_take, h.len]
  have := Nat.mod_lt 16 hW
  omega
theorem room_sum {p : List Int} {W : Nat} {ord : List Nat} (h : OrdOf p W ord) (hW : 0 < W) : sumF (evenRoom W ord) W = 16 := by
  have h1 := sumF_add (fun _ => 16 / W) (fun w => if w ∈ ord.take (16 % W) then 1 else 0) W
  rw [sumF_const, extra_sum h hW] at h1
  have := Nat.div_add_mod 16 W
  exact h1.trans this

theorem kept_sum {W : Nat} : ∀ {p : List Int} {fl : List Bool}, fl.length = p.length → (∀ x ∈ p, 0 ≤ x) → (∀ j (hj : j < p.length), fl[j]? = some true → p[j] < (W : Int)) → sumF (keptAt p fl) W = fl.count true
  | [], [], _, _, _ => by
    refine (sumF_congr (g := fun _ => 0) fun i _ => rfl).trans (by rw [sumF_const]; rfl)
  | [], _ :: _, h, _, _ => by simp at h
  | _ :: _, [], h, _, _ => by simp at h
  | x :: p, c :: fl, h, h0, hy => by
    have ih := kept_sum (W := W) (p := p) (fl := fl) (by simpa using h) (fun y hy => h0 y (by simp [hy])) fun j hj hf => by
      have := hy (j + 1) (by simpa using hj) (by simpa using hf)
      simpa using this
    cases c with
    | false =>
      rw [List.count_cons_of_ne (by simp), ← ih]
      exact sumF_congr fun i _ => by simp [keptAt]
    | true =>
      have hx := hy 0 (by simp) rfl
      have hx : x < W := hx
      have hx0 := h0 x (by simp)
      rw [List.count_cons_self, ← ih]
      have h2 := sumF_set (f := keptAt p fl) (g := keptAt (x :: p) (true :: fl)) (w := x.toNat) (n := W) (by omega) fun i hi => by
        simp only [keptAt]
        rw [if_neg (fun h => hi (by have := h.2; omega)), Nat.zero_add]
      have h3 : keptAt (x :: p) (true :: fl) x.toNat = 1 + keptAt p fl x.toNat := by
        simp only [keptAt]
        rw [if_pos ⟨trivial, by omega⟩]
      omega
theorem flags_count : ∀ fl : List Bool, fl.count true + missing fl = fl.length
  | [] => rfl
  | true :: fl => by
    have := flags_count fl
    unfold missing at this ⊢
    rw [List.count_cons_self, List.count_cons_of_ne (by simp), List.length_cons]; omega
  | false :: fl => by
    have := flags_count fl
    unfold missing at this ⊢
    rw [List.count_cons_self, List.count_cons_of_ne (by simp), List.length_cons]; omega

def differ : List Int → List Int → Nat
  | x :: p, y :: q => (if x ≠ y then 1 else 0) + differ p q
  | _, _ => 0
theorem differ_flags : ∀ {p q : List Int} {fl : List Bool}, q.length = p.length → fl.length = p.length → (∀ j (hj : j < p.length), (fl[j]? = some true → q[j]? = some p[j]) ∧ (fl[j]? = some false → q[j]? ≠ some p[j])) → differ p q = missing fl
  | [], [], [], _, _, _ => rfl
  | [], _ :: _, _, h, _, _ => by simp at h
  | _ :: _, [], _, h, _, _ => by simp at h
  | [], [], _ :: _, _, h, _ => by simp at h
  | _ :: _, _ :: _, [], _, h, _ => by simp at h
  | x :: p, y :: q, c :: fl, h1, h2, h => by
    have ih := differ_flags (p := p) (q := q) (fl := fl) (by simpa using h1) (by simpa using h2) fun j hj => by
      have := h (j + 1) (by simpa using hj)
      simpa using this
    have h0 := h 0 (by simp)
    simp only [List.getElem?_cons_zero, List.getElem_cons_zero, Option.some.injEq] at h0
    unfold differ
    rw [ih]
    cases c with
    | true =>
      have := h0.1 rfl
      rw [if_neg (by rw [this]; simp)]
      simp [missing]
    | false =>
      have := h0.2 rfl
      rw [if_pos (fun e => this (by rw [e]))]
      simp [missing]; omega

def spreadG (p : List Int) (W : Nat) (ord : List Nat) : List Int := fillG W p (keepG W p (evenRoom W ord)).1 (keepG W p (evenRoom W ord)).2

structure PlaceOf (p : List Int) : Prop where
  len : p.length = 16
  nn : ∀ x ∈ p, 0 ≤ x

theorem spread_room {p : List Int} {W : Nat} {ord : List Nat} (hp : PlaceOf p) (h : OrdOf p W ord) (hW : 0 < W) : sumF (keepG W p (evenRoom W ord)).2 W = missing (keepG W p (evenRoom W ord)).1 := by
  have h1 := kept_sum (W := W) (keepG_len W p (evenRoom W ord)) hp.nn (keepG_yes W p (evenRoom W ord))
  have h2 := flags_count (keepG W p (evenRoom W ord)).1
  have h3 := sumF_add (keptAt p (keepG W p (evenRoom W ord)).1) (keepG W p (evenRoom W ord)).2 W
  rw [sumF_congr fun w hw => keepG_at W p (evenRoom W ord) hp.nn w hw, room_sum h hW] at h3
  rw [keepG_len, hp.len] at h2
  omega
theorem spread_len {p : List Int} {W : Nat} {ord : List Nat} (hp : PlaceOf p) : (spreadG p W ord).length = 16 := by
  unfold spreadG
  rw [fillG_len _ _ _ _ (keepG_len W p _), hp.len]
/-- it moves what it must -/
theorem spread_moves {p : List Int} {W : Nat} {ord : List Nat} (hp : PlaceOf p) (h : OrdOf p W ord) (hW : 0 < W) : differ p (spreadG p W ord) + sumF (fun w => min (shareP p w) (evenRoom W ord w)) W = 16 := by
  have hd : differ p (spreadG p W ord) = missing (keepG W p (evenRoom W ord)).1 := by
    refine differ_flags (by rw [spread_len hp, hp.len]) (keepG_len W p _) fun j hj => ?_
    obtain ⟨a1, a2⟩ := fillG_at W p _ _ (keepG_len W p (evenRoom W ord)) (spread_room hp h hW) j hj
    refine ⟨a1, fun hf he => ?_⟩
    obtain ⟨w, w1, w2, w3⟩ := a2 hf
    unfold spreadG at he
    rw [w3] at he
    have e := Option.some.inj he
    rcases keepG_not W p _ hp.nn j hj hf with h1 | h1
    · omega
    · rw [← e, Int.toNat_natCast] at h1
      omega
  have h1 := kept_sum (W := W) (keepG_len W p (evenRoom W ord)) hp.nn (keepG_yes W p (evenRoom W ord))
  have h2 := flags_count (keepG W p (evenRoom W ord)).1
  rw [keepG_len, hp.len] at h2
  have h3 : sumF (keptAt p (keepG W p (evenRoom W ord)).1) W = sumF (fun w => min (shareP p w) (evenRoom W ord w)) W := sumF_congr fun w hw => by
    have e1 := keepG_at W p (evenRoom W ord) hp.nn w hw
    have e2 := keepG_room W p (evenRoom W ord) hp.nn w hw
    omega
  omega

/-- how often two places agree at a worker -/
def agreeAt : List Int → List Int → Nat → Nat
  | x :: p, y :: q, w => (if x = (w : Int) ∧ y = (w : Int) then 1 else 0) + agreeAt p q w
  | _, _, _ => 0
/-! ### even shares -/
theorem sumF_lt {f : Nat → Nat} {c n w : Nat} (h : ∀ i, i < n → f i ≤ c) (hw : w < n) (hl : f w < c) : sumF f n < n * c := by
  have h1 := sumF_set (f := f) (g := fun i => if i = w then c else f i) (w := w) hw fun i hi => if_neg hi
  simp only [if_true] at h1
  have h2 := sumF_le (f := fun i => if i = w then c else f i) (g := fun _ => c) (n := n) fun i hi => by
    split
    · exact Nat.le_refl _
    · exact h i hi
  rw [sumF_const] at h2
  omega
theorem sumF_gt {f : Nat → Nat} {c n w : Nat} (h : ∀ i, i < n → c ≤ f i) (hw : w < n) (hl : c < f w) : n * c < sumF f n := by
  have h1 := sumF_set (f := f) (g := fun i => if i = w then c else f i) (w := w) hw fun i hi => if_neg hi
  simp only [if_true] at h1
  have h2 := sumF_le (f := fun _ => c) (g := fun i => if i = w then c else f i) (n := n) fun i hi => by
    split
    · exact Nat.le_refl _
    · exact h i hi
  rw [sumF_const] at h2
  omega
/-- shares that differ by one at most -/
theorem even_bd {t : Nat → Nat} {W : Nat} (hW : 0 < W) (hs : sumF t W = 16) (he : ∀ a b, a < W → b < W → t a ≤ t b + 1) {w : Nat} (hw : w < W) : 16 / W ≤ t w ∧ t w ≤ 16 / W + 1 := by
  have hdm := Nat.div_add_mod 16 W
  have hml := Nat.mod_lt 16 hW
  constructor
  · refine Decidable.byContradiction fun hn => ?_
    have h1 := sumF_lt (f := t) (c := 16 / W) (n := W) (w := w) (fun i hi => by have := he i w hi hw; omega) hw (by omega)
    omega
  · refine Decidable.byContradiction fun hn => ?_
    have h1 := sumF_gt (f := t) (c := 16 / W + 1) (n := W) (w := w) (fun i hi => by have := he w i hw hi; omega) hw (by omega)
    rw [Nat.mul_add] at h1
    omega

/-- the best way to be even -/
theorem best {p : List Int} {W : Nat} {ord : List Nat} (h : OrdOf p W ord) (hW : 0 < W) {t : Nat → Nat} (hs : sumF t W = 16) (he : ∀ a b, a < W → b < W → t a ≤ t b + 1) :
    sumF (fun w => min (shareP p w) (t w)) W ≤ sumF (fun w => min (shareP p w) (evenRoom W ord w)) W := by
  obtain ⟨k, hk⟩ : ∃ k, 16 / W = k := ⟨_, rfl⟩
  obtain ⟨s, hs0⟩ : ∃ s, shareP p = s := ⟨_, rfl⟩
  have hdm := Nat.div_add_mod 16 W
  rw [hk] at hdm
  have hb : ∀ w, w < W → k ≤ t w ∧ t w ≤ k + 1 := fun w hw => by rw [← hk]; exact even_bd hW hs he hw
  have hdesc := h.desc
  rw [hs0] at hdesc ⊢
  -- what is beyond k
  have e1 : sumF (fun w => min (s w) (t w)) W = sumF (fun w => min (s w) k) W + sumF (fun w => if k < s w ∧ k < t w then 1 else 0) W := by
    rw [← sumF_add]
    exact sumF_congr fun w hw => by have := hb w hw; split <;> omega
  have hroom : ∀ w, evenRoom W ord w = k + if w ∈ ord.take (16 % W) then 1 else 0 := fun w => by unfold evenRoom; rw [hk]
  have e2 : sumF (fun w => min (s w) (evenRoom W ord w)) W = sumF (fun w => min (s w) k) W + sumF (fun w => if k < s w ∧ w ∈ ord.take (16 % W) then 1 else 0) W := by
    rw [← sumF_add]
    refine sumF_congr fun w hw => ?_
    rw [hroom]
    by_cases h1 : w ∈ ord.take (16 % W)
    · rw [if_pos h1]
      by_cases h2 : k < s w
      · rw [if_pos ⟨h2, h1⟩]; omega
      · rw [if_neg (fun h => h2 h.1)]; omega
    · rw [if_neg h1, if_neg (fun h => h1 h.2)]
      rfl
  rw [e1, e2]
  refine Nat.add_le_add_left ?_ _
  by_cases hall : ∀ v, v ∈ ord.take (16 % W) → k < s v
  · -- all of the first ones count
    have h1 : sumF (fun w => if k < s w ∧ w ∈ ord.take (16 % W) then 1 else 0) W = 16 % W := by
      refine Eq.trans (sumF_congr fun w _ => ?_) (extra_sum h hW)
      by_cases hm : w ∈ ord.take (16 % W)
      · rw [if_pos ⟨hall w hm, hm⟩, if_pos hm]
      · rw [if_neg (fun h => hm h.2), if_neg hm]
    have h2 : sumF (fun w => if k < s w ∧ k < t w then 1 else 0) W ≤ sumF (fun w => t w - k) W := sumF_le fun w hw => by have := hb w hw; split <;> omega
    have h3 := sumF_add (fun _ => k) (fun w => t w - k) W
    rw [sumF_const, sumF_congr (g := t) fun w hw => by have := hb w hw; omega] at h3
    omega
  · -- one of the first ones has k at most: so have all the others
    obtain ⟨v, hv, hsv⟩ : ∃ v, v ∈ ord.take (16 % W) ∧ ¬ k < s v := by
      refine Classical.byContradiction fun hn => hall fun v hv => Classical.byContradiction fun hl => hn ⟨v, hv, hl⟩
    refine sumF_le fun w hw => ?_
    by_cases h1 : k < s w
    · have hm : w ∈ ord.take (16 % W) := by
        refine Classical.byContradiction fun hn => ?_
        have hmo : w ∈ ord := h.mem.2 hw
        rw [← List.take_append_drop (16 % W) ord] at hmo hdesc
        rcases List.mem_append.1 hmo with hm | hm
        · exact hn hm
        · have := (List.pairwise_append.1 hdesc).2.2 v hv w hm
          omega
      simp only [h1, hm, true_and, if_true]
      split <;> omega
    · rw [if_neg (fun h => h1 h.1)]
      exact Nat.zero_le _

/-- what is even already stays -/
theorem stays {q : List Int} {W : Nat} {ord : List Nat} (hq : PlaceOf q) (hb : ∀ x ∈ q, 0 ≤ x ∧ x < W) (h : OrdOf q W ord) (hW : 0 < W) (he : ∀ a b, a < W → b < W → shareP q a ≤ shareP q b + 1) : spreadG q W ord = q := by
  have hs : sumF (shareP q) W = 16 := by rw [count_sum hb, hq.len]
  have h1 := best h hW hs he
  have h2 := spread_moves hq h hW
  have h3 : sumF (fun w => min (shareP q w) (shareP q w)) W = 16 := by rw [← hs]; exact sumF_congr fun w _ => Nat.min_self _
  have h4 : differ q (spreadG q W ord) = 0 := by omega
  have key : ∀ {a b : List Int}, a.length = b.length → differ a b = 0 → b = a := by
    intro a
    induction a with
    | nil => intro b hl _; cases b with
      | nil => rfl
      | cons => simp at hl
    | cons x a ih => intro b hl hd; cases b with
      | nil => simp at hl
      | cons y b =>
        unfold differ at hd
        by_cases hx : x = y
        · have hi := ih (b := b) (by simpa using hl) (by omega)
          rw [hi, hx]
        · rw [if_pos hx] at hd; omega
  exact key (by rw [spread_len hq, hq.len]) h4

end Go.Proofs.YtbkpfhhhbhaecaaDoor
end

/-
  Places: the small functions, walked.
-/
section
set_option linter.unusedVariables false
set_option linter.unusedSimpArgs false
namespace Go.Proofs.YtbkpfhhhbhaecaaDoor
open Go.Vc


/-! ### in plain Lean -/
def minZ : List Int → Int
  | [] => 0
  | x :: r => r.foldl min x
def maxZ : List Int → Int
  | [] => 0
  | x :: r => r.foldl max x
def rightZ (p : List Int) (W : Int) : Bool := decide (1 ≤ W) && (decide (W ≤ 8) && (decide ((p.length : Int) = 16) && (decide (0 ≤ minZ p) && decide (maxZ p < W))))
/-- indices -/
def idxP (f : Nat → Bool) (n : Nat) : List Int := ((List.range n).filter f).map fun i => ((i : Nat) : Int)
def ofP (p : List Int) (w : Int) : List Int := idxP (fun i => decide (p[i]? = some w)) p.length
def movedP (a b : List Int) : List Int := if a.length = 16 ∧ b.length = 16 then idxP (fun i => decide (a[i]? ≠ b[i]?)) 16 else []
def evenAt (W : Int) (b : Nat) : Int := ((b : Int) * W).tdiv 16
def evenP (W : Int) : List Int := if W < 1 ∨ 8 < W then [] else (List.range 16).map (evenAt W)

/-! ### walked -/
section
variable {W w : World} {R G : List Own} {Φ PS : PW} {p q : Option Addr} {cap cap2 : Nat} {l a b : List Int}

end
end Go.Proofs.YtbkpfhhhbhaecaaDoor
end

/-
  Places: shares, rooms, walked.
-/
section
set_option linter.unusedVariables false
set_option linter.unusedSimpArgs false
namespace Go.Proofs.YtbkpfhhhbhaecaaDoor
open Go.Vc


/-! ### arrays of eight -/
def cells8 (f : Nat → Int) : List Value := (List.range 8).map fun i => intv (f i)
/-! ### keeping, step by step -/
section
variable {Φ : PW} {p : Option Addr} {cap : Nat} {l : List Int}

end
end Go.Proofs.YtbkpfhhhbhaecaaDoor
end

/-
  Spread, walked.
-/
section
set_option linter.unusedVariables false
set_option linter.unusedSimpArgs false
namespace Go.Proofs.YtbkpfhhhbhaecaaDoor
open Go.Vc


/-- an array of rooms: none beyond the workers -/
def arrR (N : Nat) (room : Nat → Nat) : List Value := cells8 fun w => if w < N then (room w : Int) else 0
section
variable {W w : World} {S : List Own} {Φ : PW} {k : Nat} {f : Nat → Int} {t : TypeId}
end

def rangeZ (n : Nat) : List Int := (List.range n).map fun j => ((j : Nat) : Int)
/-- the order by shares -/
def cmpS (l : List Int) (x y : Int) : Int := (shareP l y.toNat : Int) - (shareP l x.toNat : Int)
/-! ### filling, step by step -/
def fillRoom (W : Nat) : List Bool → (Nat → Nat) → (Nat → Nat)
  | [], room => room
  | true :: fl, room => fillRoom W fl room
  | false :: fl, room => fillRoom W fl (fun i => if i = firstG room W 0 then room i - 1 else room i)
end Go.Proofs.YtbkpfhhhbhaecaaDoor
end

/-
  Spread, walked.
-/
section
set_option linter.unusedVariables false
set_option linter.unusedSimpArgs false
namespace Go.Proofs.YtbkpfhhhbhaecaaDoor
open Go.Vc


def shareL (l : List Int) : List Int := (List.range 8).map fun w => (shareP l w : Int)
/-- the positions of those that are not kept -/
def restP (fl : List Bool) (i : Nat) : List Int := idxP (fun j => decide (fl[j]? = some false)) i

/-- half filled -/
def mixP (q l : List Int) (b : Nat) : List Int := q.take b ++ l.drop b
end Go.Proofs.YtbkpfhhhbhaecaaDoor
end

/-
  The law PlaceSpread, walked.
-/
section
set_option linter.unusedVariables false
set_option linter.unusedSimpArgs false
namespace Go.Proofs.YtbkpfhhhbhaecaaDoor
open Go.Vc


section
variable {Φ : PW} {p q : Option Addr} {cap cap2 : Nat} {l a b : List Int} {W w : World} {R G : List Own}

end
end Go.Proofs.YtbkpfhhhbhaecaaDoor
end

/-
  Even and SameInts, walked; the law's small(), walked.
-/
section
set_option linter.unusedVariables false
set_option linter.unusedSimpArgs false
namespace Go.Proofs.YtbkpfhhhbhaecaaDoor
open Go.Vc


section
variable {Φ : PW} {p q : Option Addr} {cap cap2 : Nat} {l a b : List Int} {W w : World} {R G : List Own}

end
end Go.Proofs.YtbkpfhhhbhaecaaDoor
end

/-
  small(), walked.
-/
section
set_option linter.unusedVariables false
set_option linter.unusedSimpArgs false
namespace Go.Proofs.YtbkpfhhhbhaecaaDoor
open Go.Vc


abbrev e3 : List Int := [0, 0, 0, 0, 0, 0, 1, 1, 1, 1, 1, 2, 2, 2, 2, 2]
abbrev e32 : List Int := [0, 0, 0, 0, 0, 0, 1, 1, 1, 1, 1, 0, 0, 1, 1, 1]
abbrev vz : List ValD := [⟨0, 0, ByteArray.mk #[]⟩]
end Go.Proofs.YtbkpfhhhbhaecaaDoor
end

/-
  Move, walked; what Move and Even give, in plain Lean.
-/
section
set_option linter.unusedVariables false
set_option linter.unusedSimpArgs false
namespace Go.Proofs.YtbkpfhhhbhaecaaDoor
open Go.Vc


/-! ### plain -/
section
variable {Φ : PW} {p q : Option Addr} {cap cap2 : Nat} {l a b : List Int} {W w : World} {R G : List Own}

def moveOk (l : List Int) (bk wk n : Int) : Prop := rightZ l n = true ∧ 0 ≤ bk ∧ bk < 16 ∧ 0 ≤ wk ∧ wk < n

end
end Go.Proofs.YtbkpfhhhbhaecaaDoor
end

/-
  The law PlaceMoves, walked.
-/
section
set_option linter.unusedVariables false
set_option linter.unusedSimpArgs false
namespace Go.Proofs.YtbkpfhhhbhaecaaDoor
open Go.Vc


section
variable {Φ : PW} {p q : Option Addr} {cap cap2 : Nat} {l a b : List Int} {W w : World} {R G : List Own}

end
end Go.Proofs.YtbkpfhhhbhaecaaDoor
end

/-
  Keys of nodes, and what a node needs: walked.
-/
section
set_option linter.unusedVariables false
set_option linter.unusedSimpArgs false
namespace Go.Proofs.YtbkpfhhhbhaecaaDoor
open Go.Vc


/-- the cells of a node: 0 Op, 1 In, 8 Key, 9 Key2 -/
structure NodeC where
  n0 : Int
  n1P : Option Addr
  n1N : Nat
  n1C : Nat
  n2 : ByteArray
  n3 : Int
  n4P : Option Addr
  n4N : Nat
  n4C : Nat
  n5 : Int
  n6 : Int
  n7 : Int
  n8P : Option Addr
  n8N : Nat
  n8C : Nat
  n9P : Option Addr
  n9N : Nat
  n9C : Nat
  n10 : Int
  n11 : Int
  n12 : Int
  n13P : Option Addr
  n13N : Nat
  n13C : Nat
  n14P : Option Addr
  n14N : Nat
  n14C : Nat
  n15P : Option Addr
  n15N : Nat
  n15C : Nat

abbrev NodeC.cells (x : NodeC) : List Value := [.int .i64 x.n0, .slice x.n1P x.n1N x.n1C, .string x.n2, .int .i64 x.n3, .slice x.n4P x.n4N x.n4C, .int .i64 x.n5, .int .i64 x.n6, .int .i64 x.n7, .slice x.n8P x.n8N x.n8C, .slice x.n9P x.n9N x.n9C,
  .int .i64 x.n10, .int .i64 x.n11, .int .i64 x.n12, .slice x.n13P x.n13N x.n13C, .slice x.n14P x.n14N x.n14C, .slice x.n15P x.n15N x.n15C]
abbrev NodeC.v (x : NodeC) : Value := .agg #[.int .i64 x.n0, .slice x.n1P x.n1N x.n1C, .string x.n2, .int .i64 x.n3, .slice x.n4P x.n4N x.n4C, .int .i64 x.n5, .int .i64 x.n6, .int .i64 x.n7, .slice x.n8P x.n8N x.n8C, .slice x.n9P x.n9N x.n9C,
  .int .i64 x.n10, .int .i64 x.n11, .int .i64 x.n12, .slice x.n13P x.n13N x.n13C, .slice x.n14P x.n14N x.n14C, .slice x.n15P x.n15N x.n15C]

structure ColD where
  name : ByteArray
  type : Int
  unit : ByteArray
instance : Gv ColD := Gv.via (β := ByteArray × Int × ByteArray) (fun x => (x.name, x.type, x.unit)) (fun y => ⟨y.1, y.2.1, y.2.2⟩) (fun _ => rfl)

structure NodeD where
  op : Int
  inp : List Int
  src : ByteArray
  schema : Int
  exprs : Opq
  kind : Int
  size : Int
  step : Int
  key : List Int
  key2 : List Int
  before : Int
  after : Int
  keep : Int
  aggs : Opq
  seq : Opq
  cols : List ColD
instance : Gv NodeD := Gv.via (β := Int × List Int × ByteArray × Int × Opq × Int × Int × Int × List Int × List Int × Int × Int × Int × Opq × Opq × List ColD)
  (fun x => (x.op, x.inp, x.src, x.schema, x.exprs, x.kind, x.size, x.step, x.key, x.key2, x.before, x.after, x.keep, x.aggs, x.seq, x.cols))
  (fun y => ⟨y.1, y.2.1, y.2.2.1, y.2.2.2.1, y.2.2.2.2.1, y.2.2.2.2.2.1, y.2.2.2.2.2.2.1, y.2.2.2.2.2.2.2.1, y.2.2.2.2.2.2.2.2.1, y.2.2.2.2.2.2.2.2.2.1, y.2.2.2.2.2.2.2.2.2.2.1, y.2.2.2.2.2.2.2.2.2.2.2.1, y.2.2.2.2.2.2.2.2.2.2.2.2.1, y.2.2.2.2.2.2.2.2.2.2.2.2.2.1, y.2.2.2.2.2.2.2.2.2.2.2.2.2.2.1, y.2.2.2.2.2.2.2.2.2.2.2.2.2.2.2⟩) (fun _ => rfl)

/-- the cells stand for the node: its number, its inputs and its keys -/
structure NodeC.Of (x : NodeC) (d : NodeD) : Prop where
  op : x.n0 = d.op
  inp : x.n1N = d.inp.length
  key : x.n8N = d.key.length
  key2 : x.n9N = d.key2.length
def NodeC.At (x : NodeC) (d : NodeD) : PW := fun M w => Sl M w x.n1P d.inp ∧ Sl M w x.n8P d.key ∧ Sl M w x.n9P d.key2
instance instStableNodeAt (x : NodeC) (d : NodeD) : Stable (fun M w => x.At d M w) := by unfold NodeC.At; infer_instance
/-! ### plain -/
def keyK (op inx : Int) : Nat :=
  if (decide (inx = 0) && (decide (op = 6) || decide (op = 7) || decide (op = 4) || decide (op = 5) || decide (op = 8))) = true then 1
  else if (decide (inx = 1) && (decide (op = 6) || decide (op = 7))) = true then 2 else 0
def keyL (d : NodeD) (inx : Int) : List Int := if keyK d.op inx = 1 then d.key else if keyK d.op inx = 2 then d.key2 else []
def keyB (d : NodeD) (inx : Int) : Bool := decide (keyK d.op inx ≠ 0)
abbrev zeroV : ValD := ⟨0, 0, ByteArray.mk #[]⟩
def valAt (row : List ValD) (i : Int) : ValD := if 0 ≤ i ∧ i < row.length then row.getD i.toNat zeroV else zeroV
def valsP (row : List ValD) (key : List Int) : List ValD := key.map (valAt row)
def shortB (r : List ValD) (n : Int) : Bool := (r.all fun v => decide (v.text.size ≤ 300)) && decide ((r.length : Int) ≤ n)

/-! ### walked -/
abbrev ValD.cells (x : ValD) : List Value := [.int .i64 x.kind, .int .i64 x.num, .string x.text]
theorem val_rep {M : List Nat} {w : World} {v : ValD} (h : (I64 v.kind ∧ I64 v.num) ∧ v.text.size ≤ maxLen) : Gv.rep M w v.cells v :=
  ⟨[.int .i64 v.kind], [.int .i64 v.num, .string v.text], rfl, ⟨rfl, h.1.1⟩, [.int .i64 v.num], [.string v.text], rfl, ⟨rfl, h.1.2⟩, rfl, h.2⟩
section
variable {Φ : PW} {p q : Option Addr} {cap cap2 : Nat} {r a b : List ValD} {W w : World} {R G : List Own}

theorem Short_in [Stable Φ] {n : Int} [hΦ : Has Φ (fun M w => Sl M w p r)] (hlen : r.length ≤ maxLen) : GivesIn Φ Tryd.prog F.errataref03_Short #[.slice p r.length cap, .int .i64 n] (.bool (shortB r n)) := by
  refine .there (fun M w h => (hΦ.go M w h).there) fun hta => ?_
  refine gives_in (Berrataref03_Short_run p r.length cap n) fun W R => ?_
  refine exI_mk (fun n R' Φ' k => ∃ i : Nat, n = i ∧ i ≤ r.length ∧ R' = R ∧ Φ' = Φ ∧ k = r.length - i ∧ ∀ v ∈ r.take i, v.text.size ≤ 300) ⟨⟨R, Φ, _, inferInstance, fun w F c => c, 0, rfl, Nat.zero_le _, rfl, rfl, rfl, by simp⟩, ?_⟩
  rintro n R1 Φ1 k _ ⟨i, rfl, hi, rfl, rfl, rfl, hs⟩
  refine Br.intro (fun hlt => ?_) (fun hge => fun w G cx => ⟨?_, cx.left⟩)
  · have hlt : i < r.length := by have := of_decide_eq_true hlt; omega
    obtain ⟨g1, o1, rfl⟩ := hta (by omega)
    refine ⟨by omega, ptrK_intro g1 o1 rfl fun w G cx => ⟨r[i].text, ?_, Br.intro (fun h => fun w G cx => ⟨?_, cx.left⟩) (fun h => ⟨by unfold I64; unfold maxLen at hlen; omega, R1, Φ1, r.length - (i + 1), inferInstance, fun w G cx => cx, ⟨i + 1, rfl, hlt, rfl, rfl, rfl, ?_⟩, by omega⟩)⟩⟩
    · rw [Int.toNat_natCast]
      exact sl_val (hΦ.go _ _ cx.phi) hlt 2 (by simp)
    · have h := of_decide_eq_true h
      unfold shortB
      rw [List.all_eq_false.2 ⟨r[i], List.getElem_mem _, by simp; omega⟩]; rfl
    · have h := of_decide_eq_false h
      rw [List.take_succ_eq_append_getElem hlt]
      intro v hv
      rcases List.mem_append.1 hv with hv | hv
      · exact hs v hv
      · rw [List.mem_singleton.1 hv]; omega
  · have hge : i = r.length := by have := of_decide_eq_false hge; omega
    subst hge
    rw [List.take_length] at hs
    unfold shortB
    rw [List.all_eq_true.2 fun v hv => decide_eq_true (hs v hv)]; rfl

def needP (d : NodeD) (inx bucket : Int) (r : List ValD) : Int := if keyB d inx = true then bucketP (valsP r (keyL d inx)) else bucket

end
end Go.Proofs.YtbkpfhhhbhaecaaDoor
end

/-
  What the laws of ledgers do themselves: residues, batches that fit, bounds; the reference's net; counts and causes; a new ledger.
-/
section
set_option linter.unusedVariables false
set_option linter.unusedSimpArgs false
namespace Go.Proofs.YtbkpfhhhbhaecaaDoor
open Go.Vc


/-! ### plain -/
structure PushD where
  batch : Int
  mark : Int
  l : List LineD
  fit : Bool
instance : Gv PushD := Gv.via (β := Int × Int × List LineD × Bool) (fun x => (x.batch, x.mark, x.l, x.fit)) (fun y => ⟨y.1, y.2.1, y.2.2.1, y.2.2.2⟩) (fun _ => rfl)
abbrev PushD.cells (x : PushD) (p : Option Addr) (c : Nat) : List Value := [.int .i64 x.batch, .int .i64 x.mark, .slice p x.l.length c, .bool x.fit]
abbrev PushD.v (x : PushD) (p : Option Addr) (c : Nat) : Value := .agg #[.int .i64 x.batch, .int .i64 x.mark, .slice p x.l.length c, .bool x.fit]
theorem push_cells {M : List Nat} {w : World} {cs : List Value} {x : PushD} (h : Gv.rep M w cs x) : ∃ p c, cs = x.cells p c ∧ x.l.length ≤ c ∧ c ≤ maxLen ∧ I64 x.batch ∧ I64 x.mark ∧ Sl M w p x.l := by
  obtain ⟨_, _, rfl, ⟨rfl, h1⟩, _, _, rfl, ⟨rfl, h2⟩, _, _, rfl, ⟨p, c, rfl, g1, g2, g3⟩, h4⟩ := h
  exact ⟨p, c, by rw [h4]; rfl, g1, g2, h1, h2, g3⟩

def modP (n m : Int) : Int := if n.tmod m < 0 then n.tmod m + m else n.tmod m
theorem mod_bd {n m : Int} (h : 0 < m) : 0 ≤ modP n m ∧ modP n m < m := by
  have h1 := Int.tmod_lt_of_pos n h
  have h2 : -m < n.tmod m := by
    have := Int.tmod_lt_of_pos (-n) h
    rw [Int.neg_tmod] at this; omega
  unfold modP
  split <;> omega
def fitL (next nb mark nm : Int) (i : Nat) (x : LineD) : LineD :=
  ⟨next + i, nb, modP x.time (max (nm + 1) 1), x.row, x.n, if x.cause ≠ 2 then (if modP x.time (max (nm + 1) 1) ≤ mark then 1 else 0) else x.cause, x.why⟩
def fitLs (next nb mark nm : Int) (l : List LineD) : List LineD := l.mapIdx (fitL next nb mark nm)
def fitP (x : PushD) (last mark next : Int) : PushD :=
  if x.fit = true then ⟨w64 (w64 (last + 1) + modP x.batch 3), mark + modP x.mark 20, fitLs next (w64 (w64 (last + 1) + modP x.batch 3)) mark (mark + modP x.mark 20) x.l, true⟩ else x
theorem fitLs_len (next nb mark nm : Int) (l : List LineD) : (fitLs next nb mark nm l).length = l.length := by unfold fitLs; simp
theorem fitLs_row (next nb mark nm : Int) (l : List LineD) : ∀ x ∈ fitLs next nb mark nm l, ∃ y ∈ l, x.row = y.row := fun x hx => by
  unfold fitLs at hx
  obtain ⟨i, hi, rfl⟩ := List.getElem_of_mem hx
  rw [List.getElem_mapIdx]
  exact ⟨_, List.getElem_mem _, rfl⟩
theorem fitP_len (x : PushD) (last mark next : Int) : (fitP x last mark next).l.length = x.l.length := by
  unfold fitP
  split
  · exact fitLs_len _ _ _ _ _
  · rfl
theorem fitP_row (x : PushD) (last mark next : Int) : ∀ y ∈ (fitP x last mark next).l, ∃ z ∈ x.l, y.row = z.row := fun y hy => by
  unfold fitP at hy
  split at hy
  · exact fitLs_row _ _ _ _ _ y hy
  · exact ⟨y, hy, rfl⟩
def midL (next nb mark nm : Int) (l : List LineD) (i : Nat) : List LineD := (fitLs next nb mark nm l).take i ++ l.drop i
theorem midL_len (next nb mark nm : Int) (l : List LineD) {i : Nat} (h : i ≤ l.length) : (midL next nb mark nm l i).length = l.length := by
  unfold midL
  rw [List.length_append, List.length_take, List.length_drop, fitLs_len]; omega
theorem midL_at (next nb mark nm : Int) (l : List LineD) {i : Nat} (h : i < l.length) : (midL next nb mark nm l i)[i]? = some l[i] := by
  unfold midL
  rw [List.getElem?_append_right (by rw [List.length_take, fitLs_len]; omega), List.length_take, fitLs_len, show min i l.length = i by omega, Nat.sub_self, List.getElem?_drop, Nat.add_zero, List.getElem?_eq_getElem h]
theorem midL_step (next nb mark nm : Int) (l : List LineD) {i : Nat} (h : i < l.length) : (midL next nb mark nm l i).set i (fitL next nb mark nm i l[i]) = midL next nb mark nm l (i + 1) := by
  have hl : ((fitLs next nb mark nm l).take i).length = i := by rw [List.length_take, fitLs_len]; omega
  unfold midL
  rw [List.set_append_right _ _ (by omega), hl, Nat.sub_self, List.drop_eq_getElem_cons h, List.set_cons_zero, List.take_succ_eq_append_getElem (by rw [fitLs_len]; exact h), List.append_assoc]
  congr 1
  unfold fitLs
  rw [List.getElem_mapIdx]
  rfl

def shortL (l : List LineD) (n : Int) : Bool := (l.all fun x => shortB x.row 13) && decide ((l.length : Int) ≤ n)
def fewL (l : List PushD) (n : Int) : Bool := (l.all fun x => shortL x.l 12) && decide ((l.length : Int) ≤ n)

section
variable {Φ : PW} {q : LP} {st : LedD} {W w : World} {R S G : List Own} {p : Option Addr} {cap : Nat} {l : List LineD} {cs : List Value}

theorem mod_g {n m : Int} (h : 0 < m) (hm : m ≤ 4611686018427387904) : Gives Tryd.prog F.erratalaw41_mod #[.int .i64 n, .int .i64 m] (.int .i64 (modP n m)) := by
  have hb := mod_bd (n := n) h
  refine gives_of (Berratalaw41_mod_run n m) fun W R Φ _ => ⟨fun e => by omega, Br.intro (fun h1 => ⟨?_, fun w G c => ⟨?_, c.left⟩⟩) (fun h1 => fun w G c => ⟨?_, c.left⟩)⟩
  · have e : n.tmod m + m = modP n m := by unfold modP; rw [if_pos (of_decide_eq_true h1)]
    rw [e]; unfold I64; omega
  · unfold modP; rw [if_pos (of_decide_eq_true h1)]
  · unfold modP; rw [if_neg (of_decide_eq_false h1)]

/-- a cell of a row is read -/
theorem l_get {g n : Nat} (cx : Ctx W w (bufL (some ⟨g, 0, none⟩) n cap cs :: S) (fun M w => Φ M w ∧ Elems M w cs l)) {i k : Nat} {y : LineD} (hy : l[i]? = some y) {v : Value} (hv : ∀ p c, (y.cells p c)[k]? = some v) : w.cell? ⟨g, i * 7 + k, none⟩ = some v := by
  obtain ⟨hi, rfl⟩ := List.getElem?_eq_some_iff.1 hy
  obtain ⟨p, c, hp, _⟩ := lrow cx.phi.2 hi
  have hk := hv p c
  obtain ⟨hkl, hkv⟩ := List.getElem?_eq_some_iff.1 hk
  have := l_at cx hp k hkl
  rw [this, hkv]
/-- a cell of a row is written -/
theorem l_cellI [Stable Φ] {w' : World} {g n : Nat} (cx : Ctx W w (bufL (some ⟨g, 0, none⟩) n cap cs :: S) (fun M w => Φ M w ∧ Elems M w cs l)) {i : Nat} (x : LineD) {y : LineD} (hy : l[i]? = some y) {k : Nat} {v : Value}
    (hk : k < 7) (hr : x.row = y.row) (hx : ∀ p c, (y.cells p c).set k v = x.cells p c) (hin : y.In → x.In) (e : w' = w.setCell ⟨g, i * 7 + k, none⟩ v) :
    ∃ cs', Ctx W w' (bufL (some ⟨g, 0, none⟩) n cap cs' :: S) (fun M w => Φ M w ∧ Elems M w cs' (l.set i x)) := by
  obtain ⟨hi, rfl⟩ := List.getElem?_eq_some_iff.1 hy
  obtain ⟨cs', _, h⟩ := l_cell cx hi x hk hr hx hin e
  exact ⟨cs', h⟩
theorem l_canI {g n : Nat} (cx : Ctx W w (bufL (some ⟨g, 0, none⟩) n cap cs :: S) (fun M w => Φ M w ∧ Elems M w cs l)) {i k : Nat} (hi : i < l.length) (hk : k < 7) : CanWrite w g (i * 7 + k) 1 := by
  have := elems_len7 cx.phi.2
  exact l_can cx (by omega)

set_option maxHeartbeats 4000000 in
theorem fitted_to [Stable Φ] {x : PushD} {last mark next : Int} [hΦ : Has Φ (fun M w => Sl M w p x.l)] (hc1 : x.l.length ≤ cap) (hc2 : cap ≤ maxLen) (hlen : x.l.length ≤ 100000) (hm : -1 ≤ mark ∧ mark ≤ 1099511627776) (hn : 0 ≤ next ∧ next ≤ 10000000) (c : Ctx W w (R ++ G) Φ) {K : Int → Int → Option Addr → Nat → Nat → Bool → List Own → PW → Prop}
    (h : ∀ p' c', (fitP x last mark next).l.length ≤ c' → c' ≤ maxLen → There p' (fitP x last mark next).l.length → Stable (fun M w => Φ M w ∧ Sl M w p' (fitP x last mark next).l) → K (fitP x last mark next).batch (fitP x last mark next).mark p' (fitP x last mark next).l.length c' (fitP x last mark next).fit R (fun M w => Φ M w ∧ Sl M w p' (fitP x last mark next).l)) :
    Calls Tryd.prog F.erratalaw41_fitted #[x.v p cap, .int .i64 last, .int .i64 mark, .int .i64 next] w fun e w' => ∃ a b p' k c' f, e = .returned (.agg #[.int .i64 a, .int .i64 b, .slice p' k c', .bool f]) ∧ ∃ R' Φ', Stable Φ' ∧ Ctx W w' (R' ++ G) Φ' ∧ K a b p' k c' f R' Φ' := by
  refine (Berratalaw41_fitted_run x.batch x.mark p x.l.length cap x.fit last mark next (R := R ++ G) (J := fun v w' => ∃ a b p' k c' f, v = .agg #[.int .i64 a, .int .i64 b, .slice p' k c', .bool f] ∧ ∃ R' Φ', Stable Φ' ∧ Ctx W w' (R' ++ G) Φ' ∧ K a b p' k c' f R' Φ') c ?_).mono fun e w' ⟨v, he, a, b, p', k, c', f, hv, rest⟩ => ⟨a, b, p', k, c', f, by rw [he, hv], rest⟩
  have hth := (hΦ.go _ _ c.phi).there
  clear c
  refine fun _ _ => Br.intro (fun hf => fun w G2 cx => ?_) (fun hf => ?_)
  · have hf : x.fit = false := by simpa using hf
    have e : fitP x last mark next = x := by unfold fitP; rw [if_neg (by rw [hf]; simp)]
    rw [e] at h
    exact ⟨_, _, _, _, _, _, rfl, R, _, inferInstance, cx.left.weak fun M w h => ⟨h, hΦ.go M w h⟩, h p cap hc1 hc2 hth inferInstance⟩
  have hf : x.fit = true := by simpa using hf
  have m1 := mod_bd (n := x.batch) (m := 3) (by omega)
  have m2 := mod_bd (n := x.mark) (m := 20) (by omega)
  obtain ⟨nb, hnb⟩ : ∃ nb, w64 (w64 (last + 1) + modP x.batch 3) = nb := ⟨_, rfl⟩
  obtain ⟨nm, hnm⟩ : ∃ nm, mark + modP x.mark 20 = nm := ⟨_, rfl⟩
  have hnb64 : I64 nb := by rw [← hnb]; exact w64_in _
  have e : fitP x last mark next = ⟨nb, nm, fitLs next nb mark nm x.l, true⟩ := by unfold fitP; rw [if_pos hf, hnb, hnm]
  rw [e] at h
  simp only at h
  refine fun w G2 cx => (mod_g (n := x.batch) (m := 3) (by omega) (by omega)).use cx fun w c => ⟨_, rfl, R ++ G, Φ, inferInstance, c, ?_⟩
  clear cx c
  refine fun w G2 cx => (mod_g (n := x.mark) (m := 20) (by omega) (by omega)).use cx fun w c => ⟨_, rfl, R ++ G, Φ, inferInstance, c, ?_⟩
  clear cx c
  rw [show IntKind.i64.wrap (IntKind.i64.wrap (last + 1) + modP x.batch 3) = nb from hnb, hnm]
  refine ⟨by unfold I64; omega, fun kb w G2 cx => ?_⟩
  have cx1 : Ctx W w (bufL (some ⟨kb, 0, none⟩) 0 0 [] :: ((R ++ G) ++ G2)) Φ := cx.toBuf 0 0 7 rfl (by simp) (by simp [maxLen])
  obtain ⟨p1, c1, w1, news, hrun, cx2⟩ := Ctx.appAny (P := Tryd.prog) (ts := 57) (ty := 57) (kb := #[false, false]) (bytes := 72) (c2 := cap) (l := x.l) (q := p) cx1 (by kernel_rfl) line_one hΦ.go (by omega) (by omega)
  rw [Nat.zero_add] at hrun cx2
  refine ⟨p1, x.l.length, c1, w1, hrun, bufL p1 x.l.length c1 news :: (R ++ G), (fun M w => Φ M w ∧ Elems M w news x.l), inferInstance, cx2, ?_⟩
  have hel := cx2.phi.2
  have hpt : 0 < x.l.length → ∃ g, p1 = some ⟨g, 0, none⟩ := fun h0 => l_ptr cx2 (by show 0 < news.length; rw [elems_len7 hel]; omega)
  clear cx cx1 cx2 hel hrun
  have hmid0 : midL next nb mark nm x.l 0 = x.l := by unfold midL; simp
  refine exI_mk (fun iI R' Φ' k => ∃ (i : Nat) (cs : List Value), iI = i ∧ i ≤ x.l.length ∧ R' = bufL p1 x.l.length c1 cs :: (R ++ G) ∧ Φ' = (fun M w => Φ M w ∧ Elems M w cs (midL next nb mark nm x.l i)) ∧ k = x.l.length - i) ⟨⟨_, _, _, instStableAnd Φ (fun M w => Elems M w news x.l), fun w G cx => cx, 0, news, rfl, Nat.zero_le _, rfl, by rw [hmid0], rfl⟩, ?_⟩
  rintro iI R1 Φ1 k _ ⟨i, cs, rfl, hi, rfl, rfl, rfl⟩
  have hml := midL_len next nb mark nm x.l hi
  refine Br.intro (fun hlt => ?_) (fun hge => fun w G3 cx => ?_)
  · have hlt : i < x.l.length := by have := of_decide_eq_true hlt; omega
    obtain ⟨g, rfl⟩ := hpt (by omega)
    have hat := midL_at next nb mark nm x.l hlt
    have hstep := midL_step next nb mark nm x.l hlt
    obtain ⟨B, hB⟩ : ∃ B, midL next nb mark nm x.l i = B := ⟨_, rfl⟩
    rw [hB] at hml hat hstep ⊢
    have hiB : i < B.length := by omega
    have set2 : ∀ (a b : LineD), (B.set i a).set i b = B.set i b := fun a b => List.set_set ..
    have at2 : ∀ a : LineD, (B.set i a)[i]? = some a := fun a => List.getElem?_set_self hiB
    have ln2 : ∀ a : LineD, i < (B.set i a).length := fun a => by rw [List.length_set]; exact hiB
    have m3 := mod_bd (n := x.l[i].time) (m := max (nm + 1) 1) (by omega)
    obtain ⟨y, hy⟩ : ∃ y, x.l[i] = y := ⟨_, rfl⟩
    rw [hy] at hat hstep m3
    obtain ⟨t, ht⟩ : ∃ t, modP y.time (max (nm + 1) 1) = t := ⟨_, rfl⟩
    rw [ht] at m3
    obtain ⟨x1, hx1⟩ : ∃ x1 : LineD, x1 = ⟨next + i, y.batch, y.time, y.row, y.n, y.cause, y.why⟩ := ⟨_, rfl⟩
    obtain ⟨x2, hx2⟩ : ∃ x2 : LineD, x2 = ⟨next + i, nb, y.time, y.row, y.n, y.cause, y.why⟩ := ⟨_, rfl⟩
    obtain ⟨x3, hx3⟩ : ∃ x3 : LineD, x3 = ⟨next + i, nb, t, y.row, y.n, y.cause, y.why⟩ := ⟨_, rfl⟩
    have st0 : ∀ (c : List Value) (l : List LineD), Stable (fun M w => Φ M w ∧ Elems M w c l) := fun c l => instStableAnd Φ (fun M w => Elems M w c l)
    have off : ∀ k : Nat, 0 + (i : Int).toNat * 7 + k = i * 7 + k := fun k => by rw [Int.toNat_natCast]; omega
    have off0 : 0 + (i : Int).toNat * 7 = i * 7 + 0 := by rw [Int.toNat_natCast]; omega
    refine ⟨by unfold I64; omega, by omega, ptrK_intro g 0 rfl fun w G3 cx => ⟨by rw [off0]; exact l_canI cx hiB (by omega), fun w2 hw2 => ?_⟩⟩
    obtain ⟨csa, cxa⟩ := l_cellI (w' := w2) cx x1 hat (k := 0) (v := .int .i64 (next + i)) (by omega) (by rw [hx1]) (fun p c => by rw [hx1]; rfl) (fun hin => by rw [hx1]; exact ⟨by show I64 (next + i); unfold I64; omega, hin.batch, hin.time, hin.n, hin.cause, hin.why⟩) (by rw [hw2, off0])
    refine ⟨bufL (some ⟨g, 0, none⟩) x.l.length c1 csa :: (R ++ G), _, st0 csa (B.set i x1), cxa, ?_⟩
    clear cx cxa
    refine ⟨by omega, ptrK_intro g 0 rfl fun w G3 cx => ⟨by rw [off 1]; exact l_canI cx (ln2 x1) (by omega), fun w2 hw2 => ?_⟩⟩
    obtain ⟨csb, cxb⟩ := l_cellI (w' := w2) cx x2 (at2 x1) (k := 1) (v := .int .i64 nb) (by omega) (by rw [hx1, hx2]) (fun p c => by rw [hx1, hx2]; rfl) (fun hin => by rw [hx1] at hin; rw [hx2]; exact ⟨hin.no, hnb64, hin.time, hin.n, hin.cause, hin.why⟩) (by rw [hw2, off 1])
    rw [set2] at cxb
    refine ⟨bufL (some ⟨g, 0, none⟩) x.l.length c1 csb :: (R ++ G), _, st0 csb (B.set i x2), cxb, ?_⟩
    clear cx cxb
    refine ⟨bufL (some ⟨g, 0, none⟩) x.l.length c1 csb :: (R ++ G), _, st0 csb (B.set i x2), fun w G cx => cx, by omega, ptrK_intro g 0 rfl ⟨by unfold I64; omega, y.time, fun w G3 cx => ⟨y.time, by rw [off 2]; exact l_get cx (at2 x2) fun p c => by rw [hx2]; rfl, rfl⟩, fun w G3 cx => ?_⟩⟩
    refine (mod_g (n := y.time) (m := max (nm + 1) 1) (by omega) (by omega)).use cx fun w c => ⟨t, by rw [ht], bufL (some ⟨g, 0, none⟩) x.l.length c1 csb :: (R ++ G), _, st0 csb (B.set i x2), c, fun w G cx => cx, by omega, ptrK_intro g 0 rfl fun w G3 cx => ⟨by rw [off 2]; exact l_canI cx (ln2 x2) (by omega), fun w2 hw2 => ?_⟩⟩
    obtain ⟨csc, cxc⟩ := l_cellI (w' := w2) cx x3 (at2 x2) (k := 2) (v := .int .i64 t) (by omega) (by rw [hx2, hx3]) (fun p c => by rw [hx2, hx3]; rfl) (fun hin => by rw [hx2] at hin; rw [hx3]; exact ⟨hin.no, hin.batch, by show I64 t; unfold I64; omega, hin.n, hin.cause, hin.why⟩) (by rw [hw2, off 2])
    rw [set2] at cxc
    refine ⟨bufL (some ⟨g, 0, none⟩) x.l.length c1 csc :: (R ++ G), _, st0 csc (B.set i x3), cxc, ?_⟩
    clear cx cxc
    have done : ∀ (z : LineD) (cz : List Value), z = fitL next nb mark nm i y → ∃ (i2 : Nat) (cs : List Value), (i : Int) + 1 = i2 ∧ i2 ≤ x.l.length ∧ (bufL (some ⟨g, 0, none⟩) x.l.length c1 cz :: (R ++ G)) = bufL (some ⟨g, 0, none⟩) x.l.length c1 cs :: (R ++ G) ∧ (fun M w => Φ M w ∧ Elems M w cz (B.set i z)) = (fun M w => Φ M w ∧ Elems M w cs (midL next nb mark nm x.l i2)) ∧ x.l.length - (i + 1) = x.l.length - i2 := fun z cz hz => ⟨i + 1, cz, by omega, by omega, rfl, by rw [← hstep, hz], rfl⟩
    refine ⟨by omega, ptrK_intro g 0 rfl fun w G3 cx => ⟨y.cause, by rw [off 5]; exact l_get cx (at2 x3) fun p c => by rw [hx3]; rfl, ?_⟩⟩
    clear cx
    refine Br.intro (fun h4 => ?_) (fun h4 => ⟨by unfold I64; omega, _, _, x.l.length - (i + 1), st0 csc (B.set i x3), fun w G cx => cx, done x3 csc ?_, by omega⟩)
    · have h4 := of_decide_eq_true h4
      obtain ⟨x4, hx4⟩ : ∃ x4 : LineD, x4 = ⟨next + i, nb, t, y.row, y.n, 0, y.why⟩ := ⟨_, rfl⟩
      refine ⟨by omega, ptrK_intro g 0 rfl fun w G3 cx => ⟨by rw [off 5]; exact l_canI cx (ln2 x3) (by omega), fun w2 hw2 => ?_⟩⟩
      obtain ⟨csd, cxd⟩ := l_cellI (w' := w2) cx x4 (at2 x3) (k := 5) (v := .int .i64 0) (by omega) (by rw [hx3, hx4]) (fun p c => by rw [hx3, hx4]; rfl) (fun hin => by rw [hx3] at hin; rw [hx4]; exact ⟨hin.no, hin.batch, hin.time, hin.n, by show I64 0; unfold I64; omega, hin.why⟩) (by rw [hw2, off 5])
      rw [set2] at cxd
      refine ⟨bufL (some ⟨g, 0, none⟩) x.l.length c1 csd :: (R ++ G), _, st0 csd (B.set i x4), cxd, ?_⟩
      clear cx cxd
      refine ⟨by omega, ptrK_intro g 0 rfl fun w G3 cx => ⟨t, by rw [off 2]; exact l_get cx (at2 x4) fun p c => by rw [hx4]; rfl, ?_⟩⟩
      clear cx
      refine Br.intro (fun h5 => ?_) (fun h5 => ⟨by unfold I64; omega, _, _, x.l.length - (i + 1), st0 csd (B.set i x4), fun w G cx => cx, done x4 csd ?_, by omega⟩)
      · have h5 := of_decide_eq_true h5
        obtain ⟨x5, hx5⟩ : ∃ x5 : LineD, x5 = ⟨next + i, nb, t, y.row, y.n, 1, y.why⟩ := ⟨_, rfl⟩
        refine ⟨by omega, ptrK_intro g 0 rfl fun w G3 cx => ⟨by rw [off 5]; exact l_canI cx (ln2 x4) (by omega), fun w2 hw2 => ?_⟩⟩
        obtain ⟨cse, cxe⟩ := l_cellI (w' := w2) cx x5 (at2 x4) (k := 5) (v := .int .i64 1) (by omega) (by rw [hx4, hx5]) (fun p c => by rw [hx4, hx5]; rfl) (fun hin => by rw [hx4] at hin; rw [hx5]; exact ⟨hin.no, hin.batch, hin.time, hin.n, by show I64 1; unfold I64; omega, hin.why⟩) (by rw [hw2, off 5])
        rw [set2] at cxe
        refine ⟨bufL (some ⟨g, 0, none⟩) x.l.length c1 cse :: (R ++ G), _, st0 cse (B.set i x5), cxe, by unfold I64; omega, _, _, x.l.length - (i + 1), st0 cse (B.set i x5), fun w G cx => cx, done x5 cse ?_, by omega⟩
        rw [hx5]
        unfold fitL
        rw [ht, if_pos h4, if_pos h5]
      · rw [hx4]
        unfold fitL
        rw [ht, if_pos h4, if_neg (of_decide_eq_false h5)]
    · rw [hx3]
      unfold fitL
      rw [ht, if_neg (of_decide_eq_false h4)]
  · have hge : i = x.l.length := by have := of_decide_eq_false hge; omega
    subst hge
    have hmE : midL next nb mark nm x.l x.l.length = fitLs next nb mark nm x.l := by
      unfold midL
      rw [List.drop_length, List.append_nil, ← fitLs_len next nb mark nm x.l, List.take_length]
    rw [hmE] at cx
    have cx := cx.left
    obtain ⟨_, k1, k2⟩ := cx.bufLen 0 rfl
    obtain ⟨cx3, hs, _⟩ := Ctx.freeze (α := LineD) cx cx.phi.2
    have hl := fitLs_len next nb mark nm x.l
    refine ⟨nb, nm, p1, x.l.length, c1, x.fit, rfl, R, (fun M w => Φ M w ∧ Sl M w p1 (fitLs next nb mark nm x.l)), inferInstance, (cx3.add (Ψ := fun M w => Sl M w p1 (fitLs next nb mark nm x.l)) hs).weak fun M w h => ⟨h.1.1, h.2⟩, ?_⟩
    rw [hl] at h
    rw [hf]
    exact h p1 c1 k1 k2 (by have := hs.there; rw [hl] at this; exact this) inferInstance
end
end Go.Proofs.YtbkpfhhhbhaecaaDoor
end

/-
  Bounds of pushes; the reference's net; multisets; counts and causes; a new ledger. (The first parts are those of the texts Ef, Eg and Ex of the seat of DeltaCounts.)
-/
section
set_option linter.unusedVariables false
set_option linter.unusedSimpArgs false
namespace Go.Proofs.YtbkpfhhhbhaecaaDoor
open Go.Vc


/-! ### of the others' texts -/
theorem sumK_low (t : Int) (k : Key) : ∀ l : List DeltaD, sumK (lowP l t) k = if k.1 ≤ t then sumK l k else 0
  | [] => by simp [sumK]
  | x :: l => by
    have ih := sumK_low t k l
    unfold lowP at ih ⊢
    by_cases hx : x.time ≤ t
    · rw [List.filter_cons_of_pos (by simpa using hx)]
      simp only [sumK]
      rw [ih]
      by_cases hk : x.key = k
      · have : k.1 ≤ t := by rw [← hk]; exact hx
        rw [if_pos hk, if_pos this, if_pos this]
      · rw [if_neg hk, Int.zero_add, Int.zero_add]
    · rw [List.filter_cons_of_neg (by simpa using hx)]
      simp only [sumK]
      rw [ih]
      by_cases hk : x.key = k
      · have : ¬ k.1 ≤ t := by rw [← hk]; exact hx
        rw [if_neg this, if_neg this]
      · rw [if_neg hk, Int.zero_add]
theorem find_upto (l : List DeltaD) (t : Int) (k : Key) : findP (uptoP l t) k = if k.1 ≤ t then findP l k else 0 := by
  unfold uptoP
  rw [find_cons]
  unfold findP
  rw [sumK_low]
  split <;> rfl
theorem upto_norm (l : List DeltaD) (t : Int) : Norm (uptoP l t) := (consP_norm _).1
theorem consP_key : ∀ {l : List DeltaD}, ∀ z ∈ consP l, ∃ y ∈ l, y.key = z.key
  | [], z, hz => by cases hz
  | x :: l, z, hz => by
    rcases insD_key x (consP l) z hz with h | ⟨y, hy, h⟩
    · exact ⟨x, by simp, h.symm⟩
    · obtain ⟨u, hu, h2⟩ := consP_key y hy
      exact ⟨u, by simp [hu], h2.trans h⟩
theorem neg1_in {Φ : PW} [Stable Φ] (x : DeltaD) (p : Option Addr) (cap : Nat) : GivesIn Φ Tryd.prog F.delta_Multiset_1 #[x.v p cap] (.bool (decide (x.n < 0))) :=
  gives_in (Bdelta_Multiset_1_run x.time p x.row.length cap x.n) fun W R => fun _ w G cx => ⟨rfl, cx.left⟩

def multiP (l : List DeltaD) : Bool := !(consP l).any fun x => decide (x.n < 0)

theorem Multiset_in {Φ : PW} [Stable Φ] (p : Option Addr) (cap : Nat) (l : List DeltaD) (hΦ : ∀ M w, Φ M w → Sl M w p l) (hlen : l.length ≤ 1000000) (hrow : ∀ x ∈ l, x.row.length ≤ 1000000) :
    GivesIn Φ Tryd.prog F.delta_Multiset #[.slice p l.length cap] (.bool (multiP l)) := by
  refine gives_in (Bdelta_Multiset_run p l.length cap) fun W R => ?_
  refine fun w G cx => (Consolidate_sl p cap l hΦ hlen hrow).use cx fun p1 c1 w h1 h2 cx => ⟨p1, _, c1, rfl, R, _, inferInstance, cx, fun w G cx => ?_⟩
  have hcon : GivesIn (fun M w => Φ M w ∧ Sl M w p1 (consP l)) Tryd.prog F.slices_ContainsFunc_api_Delta_api_Delta #[.slice p1 (consP l).length c1, .func (.func F.delta_Multiset_1) #[] #[]] (.bool ((consP l).any fun x => decide (x.n < 0))) :=
    .pinned (fun M w h => h.2) fun b o cs hp => by
      refine gives_in (Bslices_ContainsFunc_api_Delta_api_Delta_run p1 (consP l).length c1 F.delta_Multiset_1 #[]) fun W R => ?_
      exact fun w G cx => (IndexD_in (Φ := fun M w => (Φ M w ∧ Sl M w p1 (consP l)) ∧ Pin b o cs (consP l) M w) p1 c1 (consP l) b o cs F.delta_Multiset_1 #[] (fun x => decide (x.n < 0)) hp (fun M w h => h.2) (len_max h1 h2) (by kernel_rfl) (fun j hj r c _ _ _ => neg1_in _ r c)).use cx fun w cx => ⟨_, rfl, R, _, inferInstance, cx, fun w G cx => ⟨by rw [findI_any], cx.left⟩⟩
  exact hcon.use cx fun w cx => ⟨_, rfl, R, Φ, inferInstance, cx.fst, fun w G cx => ⟨rfl, cx.left⟩⟩

theorem find_ne {l : List DeltaD} {k : Key} (h : findP l k ≠ 0) : ∃ y ∈ l, y.key = k := by
  refine Classical.byContradiction fun hn => h ?_
  unfold findP
  rw [sumK_none fun y hy e => hn ⟨y, hy, e⟩]
  rfl
theorem multi_law (a : List DeltaD) : multiP a = !(a.any fun x => decide (findP a x.key < 0)) := by
  unfold multiP
  congr 1
  rw [Bool.eq_iff_iff, List.any_eq_true, List.any_eq_true]
  constructor
  · rintro ⟨z, hz, hn⟩
    obtain ⟨y, hy, he⟩ := consP_key z hz
    refine ⟨y, hy, ?_⟩
    have h1 := (consP_norm a).1.find_mem z hz
    rw [find_cons] at h1
    rw [he, h1]
    exact hn
  · rintro ⟨x, hx, hn⟩
    have hn := of_decide_eq_true hn
    have h1 : findP (consP a) x.key ≠ 0 := by rw [find_cons]; omega
    obtain ⟨z, hz, he⟩ := find_ne h1
    refine ⟨z, hz, ?_⟩
    have h2 := (consP_norm a).1.find_mem z hz
    rw [he, find_cons] at h2
    exact decide_eq_true (by omega)


/-! ### walked -/
section
variable {Φ : PW} {q : LP} {st : LedD} {W w : World} {R S G : List Own} {p : Option Addr} {cap : Nat}

theorem Multi_in [Stable Φ] {l : List DeltaD} [hΦ : Has Φ (fun M w => Sl M w p l)] (hlen : l.length ≤ 1000000) (hrow : Rows1 l) : GivesIn Φ Tryd.prog F.delta_Multiset #[.slice p l.length cap] (.bool (multiP l)) := Multiset_in p cap l hΦ.go hlen hrow

theorem Short41_in [Stable Φ] {l : List LineD} {cs : List Value} {n : Int} (src : Src [] Φ p l cs) (hlen : l.length ≤ maxLen) : GivesIn Φ Tryd.prog F.errataref41_Short #[.slice p l.length cap, .int .i64 n] (.bool (shortL l n)) := by
  refine ⟨fun W0 w0 S0 c0 => GivesIn.go (gives_in (Berrataref41_Short_run p l.length cap n) fun W R => ?_) W0 w0 S0 c0⟩
  have hc : Rows7 cs l := rows7 (src.el _ _ c0.phi)
  clear c0
  refine exI_mk (fun n R' Φ' k => ∃ i : Nat, n = i ∧ i ≤ l.length ∧ R' = R ∧ Φ' = Φ ∧ k = l.length - i ∧ (l.take i).all (fun x => shortB x.row 13) = true) ⟨⟨R, Φ, _, inferInstance, fun w F c => c, 0, rfl, Nat.zero_le _, rfl, rfl, rfl, rfl⟩, ?_⟩
  rintro n1 R1 Φ1 k _ ⟨i, rfl, hi, rfl, rfl, rfl, hs⟩
  refine Br.intro (fun hlt => ?_) (fun hge => fun w G cx => ⟨?_, cx.left⟩)
  · have hlt : i < l.length := by have := of_decide_eq_true hlt; omega
    obtain ⟨b, o, hp⟩ := src.ptr (by omega)
    obtain ⟨r, rc, he, h1, h2, _⟩ := hc i hlt
    have hh : Has Φ1 (fun M w => Sl M w r l[i].row) := ⟨fun M w h => src_sl src hlt he h⟩
    refine ⟨by omega, ptrK_intro b o hp fun w G cx => ⟨r, l[i].row.length, rc, ?_, fun w G cx => (Short_in (r := l[i].row) (by omega)).toB cx ?_⟩⟩
    · have := src_at (G := R1 ++ G) src hp cx he 3 (by simp)
      rw [Int.toNat_natCast]
      exact this
    clear cx
    refine Br.intro (fun h => fun w G cx => ⟨?_, cx.left⟩) (fun h => ⟨by unfold I64; unfold maxLen at hlen; omega, R1, Φ1, l.length - (i + 1), inferInstance, fun w G cx => cx, ⟨i + 1, rfl, hlt, rfl, rfl, rfl, ?_⟩, by omega⟩)
    · have h : shortB l[i].row 13 = false := by simpa using h
      unfold shortL
      rw [List.all_eq_false.2 ⟨l[i], List.getElem_mem _, by rw [h]; simp⟩]; rfl
    · have h : shortB l[i].row 13 = true := by simpa using h
      rw [List.take_succ_eq_append_getElem hlt, List.all_append, hs]
      simp [h]
  · have hge : i = l.length := by have := of_decide_eq_false hge; omega
    subst hge
    rw [List.take_length] at hs
    unfold shortL
    rw [hs, Bool.true_and]

theorem Short41_sl [Stable Φ] {l : List LineD} {n : Int} [hΦ : Has Φ (fun M w => Sl M w p l)] (hlen : l.length ≤ maxLen) : GivesIn Φ Tryd.prog F.errataref41_Short #[.slice p l.length cap, .int .i64 n] (.bool (shortL l n)) :=
  .there (fun M w h => (hΦ.go M w h).there) fun hth => ⟨fun W w S c => by
    obtain ⟨cs, c1⟩ := srcOf c (hΦ.go _ _ c.phi)
    exact (Short41_in (Φ := fun M w => Φ M w ∧ SrcF p l cs M w) (src_fact (Φ := fun M w => Φ M w ∧ SrcF p l cs M w) hth (fun M w h => h.2)) hlen).use c1 fun w' c => ⟨rfl, c.fst⟩⟩

/-! ### pushes -/
theorem pin_push {M : List Nat} {w : World} {b o : Nat} {cs : List (List Value)} {l : List PushD} (h : Pin b o cs l M w) {j : Nat} (hj : j < l.length) : ∃ p c, cs.getD j [] = l[j].cells p c ∧ l[j].l.length ≤ c ∧ c ≤ maxLen ∧ I64 l[j].batch ∧ I64 l[j].mark := by
  obtain ⟨_, h1, h2⟩ := h j hj
  obtain ⟨p, c, e, g1, g2, g3, g4, _⟩ := push_cells h2
  exact ⟨p, c, e, g1, g2, g3, g4⟩
theorem pinp_sl {M : List Nat} {w : World} {b o : Nat} {cs : List (List Value)} {l : List PushD} (h : Pin b o cs l M w) {j : Nat} (hj : j < l.length) {p : Option Addr} {c : Nat} (e : cs.getD j [] = l[j].cells p c) : Sl M w p l[j].l := by
  have := (h j hj).2.2
  rw [e] at this
  obtain ⟨p', c', e', _, _, _, _, h1⟩ := push_cells this
  simp only [PushD.cells, List.cons.injEq, Value.slice.injEq] at e'
  rw [e'.2.2.1.1]
  exact h1
theorem pinp_rowAt {M : List Nat} {w : World} {b o : Nat} {cs : List (List Value)} {l : List PushD} (h : Pin b o cs l M w) {j : Nat} (hj : j < l.length) {p : Option Addr} {c : Nat} (e : cs.getD j [] = l[j].cells p c) : RowAt w b (o + j * 4) (l[j].cells p c) := by
  have := (h j hj).2.1
  rw [e] at this
  exact this

theorem Few41_in [Stable Φ] {l : List PushD} {n : Int} {g o : Nat} {cs : List (List Value)} (hp : 0 < l.length → p = some ⟨g, o, none⟩) (hP : ∀ M w, Φ M w → Pin g o cs l M w) (hlen : l.length ≤ maxLen) : GivesIn Φ Tryd.prog F.erratalaw41_few #[.slice p l.length cap, .int .i64 n] (.bool (fewL l n)) := by
  refine ⟨fun W0 w0 S0 c0 => GivesIn.go (gives_in (Berratalaw41_few_run p l.length cap n) fun W R => ?_) W0 w0 S0 c0⟩
  have hc : ∀ j (hj : j < l.length), ∃ p c, cs.getD j [] = l[j].cells p c ∧ l[j].l.length ≤ c ∧ c ≤ maxLen ∧ I64 l[j].batch ∧ I64 l[j].mark := fun j hj => pin_push (hP _ _ c0.phi) hj
  clear c0
  refine exI_mk (fun n R' Φ' k => ∃ i : Nat, n = i ∧ i ≤ l.length ∧ R' = R ∧ Φ' = Φ ∧ k = l.length - i ∧ (l.take i).all (fun x => shortL x.l 12) = true) ⟨⟨R, Φ, _, inferInstance, fun w F c => c, 0, rfl, Nat.zero_le _, rfl, rfl, rfl, rfl⟩, ?_⟩
  rintro n1 R1 Φ1 k _ ⟨i, rfl, hi, rfl, rfl, rfl, hs⟩
  refine Br.intro (fun hlt => ?_) (fun hge => fun w G cx => ⟨?_, cx.left⟩)
  · have hlt : i < l.length := by have := of_decide_eq_true hlt; omega
    obtain ⟨r, rc, he, h1, h2, _⟩ := hc i hlt
    have hh : Has Φ1 (fun M w => Sl M w r l[i].l) := ⟨fun M w h => pinp_sl (hP M w h) hlt he⟩
    refine ⟨by omega, ptrK_intro g o (hp (by omega)) fun w G cx => ⟨r, l[i].l.length, rc, ?_, fun w G cx => (Short41_sl (l := l[i].l) (n := 12) (by omega)).toB cx ?_⟩⟩
    · have := pinp_rowAt (hP _ _ cx.phi) hlt he 2 (by simp)
      rw [Int.toNat_natCast]
      exact this
    clear cx
    refine Br.intro (fun h => fun w G cx => ⟨?_, cx.left⟩) (fun h => ⟨by unfold I64; unfold maxLen at hlen; omega, R1, Φ1, l.length - (i + 1), inferInstance, fun w G cx => cx, ⟨i + 1, rfl, hlt, rfl, rfl, rfl, ?_⟩, by omega⟩)
    · have h : shortL l[i].l 12 = false := by simpa using h
      unfold fewL
      rw [List.all_eq_false.2 ⟨l[i], List.getElem_mem _, by rw [h]; simp⟩]; rfl
    · have h : shortL l[i].l 12 = true := by simpa using h
      rw [List.take_succ_eq_append_getElem hlt, List.all_append, hs]
      simp [h]
  · have hge : i = l.length := by have := of_decide_eq_false hge; omega
    subst hge
    rw [List.take_length] at hs
    unfold fewL
    rw [hs, Bool.true_and]

/-! ### the reference's net -/
set_option maxHeartbeats 1000000 in
theorem Net41_sl [Stable Φ] {l : List LineD} [hΦ : Has Φ (fun M w => Sl M w p l)] (hlen : l.length ≤ 400000) (hrow : ∀ x ∈ l, x.row.length ≤ 1000000) : GivesSl Φ Tryd.prog F.errataref41_Net #[.slice p l.length cap] (netP l) id := by
  refine .there (fun M w h => (hΦ.go M w h).there) fun hth => ⟨fun W0 w0 S0 c0 => ?_⟩
  obtain ⟨cs, c1⟩ := srcOf c0 (hΦ.go _ _ c0.phi)
  have src : Src [] (fun M w => Φ M w ∧ SrcF p l cs M w) p l cs := src_fact hth (fun M w h => h.2)
  have hc : Rows7 cs l := rows7 (src.el _ _ c1.phi)
  have main : GivesSl (fun M w => Φ M w ∧ SrcF p l cs M w) Tryd.prog F.errataref41_Net #[.slice p l.length cap] (netP l) id := by
    obtain ⟨Ψ, hΨ⟩ : ∃ Ψ : PW, (fun M w => Φ M w ∧ SrcF p l cs M w) = Ψ := ⟨_, rfl⟩
    have hst : Stable Ψ := by rw [← hΨ]; infer_instance
    rw [hΨ] at src ⊢
    refine gives_sl (Berrataref41_Net_run p l.length cap) fun W R => ?_
    refine exI_mk (fun sp sn sc iI R' Φ' k => ∃ (i : Nat) (ds : List Value), iI = i ∧ i ≤ l.length ∧ sn = ((l.take i).map LineD.d).length ∧ R' = .buf sp sn sc ds 77 3 :: R ∧ Φ' = (fun M w => Ψ M w ∧ Elems M w ds ((l.take i).map LineD.d)) ∧ k = l.length - i)
      ⟨⟨.buf none 0 0 [] 77 3 :: R, fun M w => Ψ M w ∧ Elems M w [] ((l.take 0).map LineD.d), _, inferInstance, fun w G cx => (cx.weak fun M w h => ⟨h, Elems.nil⟩).nobuf 77 3, 0, [], rfl, Nat.zero_le _, rfl, rfl, rfl, rfl⟩, ?_⟩
    rintro sp _ sc iI R1 Φ1 k _ ⟨i, ds, rfl, hi, rfl, rfl, rfl, rfl⟩
    have hln : ((l.take i).map LineD.d).length = i := by simp; omega
    refine Br.intro (fun hlt => ?_) (fun hge => fun w G cx => ?_)
    · have hlt : i < l.length := by have := of_decide_eq_true hlt; omega
      obtain ⟨b, o, hp⟩ := src.ptr (by omega)
      obtain ⟨r, rc, he, h1, h2, h3⟩ := hc i hlt
      have rd : ∀ {S : List Own} {w : World} {k : Nat} {v : Value}, (l[i].cells r rc)[k]? = some v → Ctx W w S (fun M w => Ψ M w ∧ Elems M w ds ((l.take i).map LineD.d)) → w.cell? ⟨b, o + (i : Int).toNat * 7 + k, none⟩ = some v := fun {S w k v} hv cx => by
        obtain ⟨hk, hv⟩ := List.getElem?_eq_some_iff.1 hv
        rw [Int.toNat_natCast]
        have := src_at (G := S) src hp cx.fst he k hk
        rw [this, hv]
      refine ⟨_, _, inferInstance, fun w G cx => cx, by omega, ptrK_intro b o hp ⟨by omega, ptrK_intro b o hp ⟨by omega, ptrK_intro b o hp ⟨l[i].time, fun w G cx => ⟨_, rd rfl cx, rfl⟩, r, l[i].row.length, rc, fun w G cx => ⟨_, _, _, rd rfl cx, rfl⟩, l[i].n, fun w G cx => ⟨_, rd rfl cx, rfl⟩, fun kb => ⟨fun w G cx => Ctx.drop1 cx, fun w G cx => ?_⟩⟩⟩⟩⟩
      obtain ⟨p', c', w', hrun, cx'⟩ := pushLD (x := l[i]) (PS := Ψ) (fun M w h => src_sl src hlt he h) h1 h2 h3 (by omega) cx
      have htk : (l.take (i + 1)).map LineD.d = (l.take i).map LineD.d ++ [l[i].d] := by rw [List.take_succ_eq_append_getElem hlt, List.map_append]; rfl
      rw [← htk] at hrun cx'
      have hst3 : Stable (fun M w => Ψ M w ∧ Elems M w (ds ++ l[i].d.cells r rc) ((l.take (i + 1)).map LineD.d)) := inferInstance
      exact ⟨p', _, c', w', hrun, _, _, hst3, cx', by unfold I64; omega, _, _, l.length - (i + 1), hst3, fun w G cx => cx, ⟨i + 1, _, by omega, hlt, rfl, rfl, rfl, rfl⟩, by omega⟩
    · have hi : i = l.length := by have := of_decide_eq_false hge; omega
      subst hi
      rw [List.take_length] at cx ⊢
      obtain ⟨cx3, hs, _, k1, k2⟩ := Ctx.freeze (α := DeltaD) cx.fst cx.phi.2
      have hst4 : Stable (fun M w => Ψ M w ∧ Sl M w sp (l.map LineD.d)) := inferInstance
      refine (Cons28_sl (Φ := fun M w => Ψ M w ∧ Sl M w sp (l.map LineD.d)) sp sc (l.map LineD.d) (fun M w h => h.2) k1 k2 (by simp; omega) (fun x hx => ?_)).use (cx3.add hs) fun p3 c3 w h1 h2 cx => ⟨p3, _, c3, rfl, R, fun M w => Ψ M w ∧ Sl M w p3 (netP l), inferInstance, cx.weak fun M w h => ⟨h.1.1, h.2⟩, fun w G cx => ⟨p3, c3, rfl, h1, h2, cx.left⟩⟩
      obtain ⟨y, hy, rfl⟩ := List.mem_map.1 hx
      exact hrow y hy
  exact main.use c1 fun p' c' w' h1 h2 c => ⟨p', c', rfl, h1, h2, c.weak fun M w h => ⟨h.1.1, h.2⟩⟩

/-! ### a ledger's own -/
theorem Count_q [Stable Φ] {t : Int} {r : List ValD} [hT : Has Φ TabI] [hR : Has Φ (fun M w => Sl M w p r)] (hq : LedQ q st) (hlen : r.length ≤ 1000000) (htx : ∀ v ∈ r, v.text.size ≤ 10000) :
    GivesQ (LedO q st) Φ Tryd.prog F.ledger_Ledger_Count #[led q, .int .i64 t, .slice p r.length cap] (.int .i64 (cntL st.lines (t, rowB r))) := by
  refine gives_q (Bledger_Ledger_Count_run q.lb 0 t p r.length cap) fun W R => ⟨LedO q st ++ R, Φ, inferInstance, fun w G cx => cx, some q.mb, fun w G cx => ⟨some q.mb, led_cell (i := 2) cx rfl, rfl⟩, fun w G cx => ?_⟩
  refine (RowBytes_in p cap r hT.go hR.go hlen htx).toS cx ⟨fun w G cx => cx, getM q.es (t, rowB r), fun w G cx => ⟨_, fun w2 hw2 => run_lookupM keyTy (by rw [hw2]; exact led_map cx) (t, rowB r), rfl⟩, fun w G cx => ⟨?_, cx.left⟩⟩
  rw [hq.cnt]

theorem Causes_to [Stable Φ] (cx : Ctx W w ((LedO q st ++ R) ++ G) Φ) {K : Int → Int → Int → List Own → PW → Prop} (hk : K (caus st.lines 0) (caus st.lines 1) (caus st.lines 2) (LedO q st ++ R) Φ) :
    Calls Tryd.prog F.ledger_Ledger_Causes #[led q] w fun e w' => ∃ a b c, e = .returned (.tuple #[.int .i64 a, .int .i64 b, .int .i64 c]) ∧ ∃ R' Φ', Stable Φ' ∧ Ctx W w' (R' ++ G) Φ' ∧ K a b c R' Φ' := by
  refine (Bledger_Ledger_Causes_run q.lb 0 (R := (LedO q st ++ R) ++ G) (J := fun v w' => v = .tuple #[.int .i64 (caus st.lines 0), .int .i64 (caus st.lines 1), .int .i64 (caus st.lines 2)] ∧ Ctx W w' ((LedO q st ++ R) ++ G) Φ) cx ?_).mono fun e w' ⟨v, he, hv, c'⟩ => ⟨_, _, _, by rw [he, hv], _, Φ, inferInstance, c', hk⟩
  exact fun w G2 cx => ⟨by omega, _, cx.get 0 (i := 3) rfl rfl, by omega, _, cx.get 0 (i := 4) rfl rfl, by omega, _, cx.get 0 (i := 5) rfl rfl, fun w G3 cx => ⟨rfl, cx.left⟩⟩

theorem new_q {b m : Nat} : LedQ ⟨b, none, 0, [], none, 0, m, [], 0⟩ ⟨[], []⟩ where
  map := ⟨List.Pairwise.nil, List.Pairwise.nil, by simp⟩
  cnt := fun k => rfl
  lpt := fun h => by simp at h
  bpt := fun h => by simp at h
  lcap := ⟨Nat.le_refl _, Nat.zero_le _⟩
  cells := fun i h => by simp at h
  len := rfl
theorem new_s : LedS ⟨[], []⟩ := ⟨by simp, by simp, by simp, by simp, by simp⟩
theorem New_to [Stable Φ] (c : Ctx W w (R ++ G) Φ) {K : Option Addr → List Own → PW → Prop}
    (hk : ∀ q : LP, LedQ q ⟨[], []⟩ → Stable (fun M w => Φ M w ∧ LF q ⟨[], []⟩ M w) → K (some ⟨q.lb, 0, none⟩) (LedO q ⟨[], []⟩ ++ R) (fun M w => Φ M w ∧ LF q ⟨[], []⟩ M w)) :
    Calls Tryd.prog F.ledger_New #[] w fun e w' => ∃ p, e = .returned (.pointer p) ∧ ∃ R' Φ', Stable Φ' ∧ Ctx W w' (R' ++ G) Φ' ∧ K p R' Φ' := by
  refine (Bledger_New_run (R := R ++ G) (J := fun v w' => ∃ p, v = .pointer p ∧ ∃ R' Φ', Stable Φ' ∧ Ctx W w' (R' ++ G) Φ' ∧ K p R' Φ') c ?_).mono fun e w' ⟨v, he, p, hv, rest⟩ => ⟨p, by rw [he, hv], rest⟩
  intro k0 k1 w2 G2 cx
  have cx := Ctx.left (S := .blk k1 _ 117 :: .obj k0 (.map #[] 0) :: (R ++ G)) cx
  have c2 := (cx.nobuf 120 3)
  have c3 := c2.nobuf 81 7
  have c4 : Ctx W w2 (.blk k1 [.slice none 0 0, .slice none 0 0, .map (some k0), .int .i64 0, .int .i64 0, .int .i64 0] 117 :: .buf none 0 0 [] 81 7 :: .buf none 0 0 [] 120 3 :: .obj k0 (.map #[] 0) :: (R ++ G)) Φ := c3.perm (List.perm_middle (l₁ := [_, _]) (a := _))
  exact ⟨_, rfl, LedO ⟨k1, none, 0, [], none, 0, k0, [], 0⟩ ⟨[], []⟩ ++ R, _, instStableAnd Φ (fun M w => Elems M w [] ([] : List LineD)), c4.weak fun M w h => ⟨h, Elems.nil⟩, hk ⟨k1, none, 0, [], none, 0, k0, [], 0⟩ new_q (instStableAnd Φ (fun M w => Elems M w [] ([] : List LineD)))⟩
end
end Go.Proofs.YtbkpfhhhbhaecaaDoor
end

/-
  Append of lines that facts tell of; the examples of the law.
-/
section
set_option linter.unusedVariables false
set_option linter.unusedSimpArgs false
namespace Go.Proofs.YtbkpfhhhbhaecaaDoor
open Go.Vc


theorem app_s {st : LedD} {no mark : Int} {L : List LineD} (hs : LedS st) (hr : ∀ x ∈ L, x.row.length ≤ 13) (ht : ∀ x ∈ L, ∀ v ∈ x.row, v.text.size ≤ 300) (h1 : (st.lines ++ L).length ≤ 100000) (h2 : st.bats.length + 1 ≤ 100000) : LedS (appP st no mark L) where
  lines := h1
  bats := by show (st.bats ++ [_]).length ≤ _; rw [List.length_append]; exact h2
  row := fun x hx => (List.mem_append.1 hx).elim (hs.row x) (hr x)
  text := fun x hx => (List.mem_append.1 hx).elim (hs.text x) (ht x)
  stop := fun b hb => by
    show b.stop ≤ (st.lines ++ L).length
    rcases List.mem_append.1 hb with h | h
    · have := hs.stop b h
      rw [List.length_append]; omega
    · rw [List.mem_singleton.1 h]; exact Nat.le_refl _
theorem app_bats {st : LedD} {no mark : Int} {L : List LineD} (hs : LedS st) (hb : BatsOk st) (h1 : I64 no) (h2 : I64 mark) : BatsOk (appP st no mark L) := by
  refine ⟨fun i hi => ?_, fun b hm => ?_⟩
  · have hi : i < (st.bats ++ [(⟨no, mark, (st.lines ++ L).length⟩ : BatD)]).length := hi
    show begP (st.bats ++ [(⟨no, mark, (st.lines ++ L).length⟩ : BatD)]) i ≤ (st.bats ++ [(⟨no, mark, (st.lines ++ L).length⟩ : BatD)])[i].stop
    rw [List.length_append, List.length_singleton] at hi
    have e : begP (st.bats ++ [(⟨no, mark, (st.lines ++ L).length⟩ : BatD)]) i = begP st.bats i := by
      unfold begP
      by_cases h0 : i = 0
      · rw [if_pos h0, if_pos h0]
      · rw [if_neg h0, if_neg h0, List.getElem?_append_left (by omega)]
    rw [e]
    by_cases hlt : i < st.bats.length
    · rw [List.getElem_append_left hlt]
      exact hb.1 i hlt
    · have hie : i = st.bats.length := by omega
      subst hie
      rw [List.getElem_append_right (Nat.le_refl _)]
      simp only [Nat.sub_self, List.getElem_cons_zero]
      unfold begP
      split
      · exact Nat.zero_le _
      · rw [List.getElem?_eq_getElem (by omega)]
        have := hs.stop _ (List.getElem_mem (l := st.bats) (n := st.bats.length - 1) (by omega))
        rw [List.length_append]
        show st.bats[st.bats.length - 1].stop ≤ _
        omega
  · rcases List.mem_append.1 hm with h | h
    · exact hb.2 b h
    · rw [List.mem_singleton.1 h]; exact ⟨h1, h2⟩

section
variable {Φ : PW} {q : LP} {st : LedD} {W w : World} {R S G : List Own} {p r : Option Addr} {cap cap2 : Nat}

theorem EqualH [Stable Φ] {a b : List DeltaD} [hΦ : Has Φ (fun M w => Sl M w p a)] [hΨ : Has Φ (fun M w => Sl M w r b)] (hlen : a.length ≤ 1000000) :
    GivesIn Φ Tryd.prog F.errataref28_Equal #[.slice p a.length cap, .slice r b.length cap2] (.bool (decide (a = b))) := Equal_in p cap a r cap2 b hΦ.go hΨ.go (by omega)

theorem Append_to [Stable Φ] {no mark : Int} {L : List LineD} [hT : Has Φ TabI] [hF : Has Φ (LF q st)] [hL : Has Φ (fun M w => Sl M w p L)] (hq : LedQ q st) (hs : LedS st) (hk : CntOk st) (hlen : L.length ≤ 100000) (hrow : ∀ x ∈ L, x.row.length ≤ 1000000) (htx : ∀ x ∈ L, ∀ v ∈ x.row, v.text.size ≤ 10000)
    (c : Ctx W w ((LedO q st ++ R) ++ G) Φ) {K : Int → List Own → PW → Prop}
    (h0 : checkP st no mark L ≠ 0 → K (checkP st no mark L) (LedO q st ++ R) Φ)
    (h1 : ∀ q', checkP st no mark L = 0 → RowsFit L → q'.lb = q.lb → LedQ q' (appP st no mark L) → Stable (fun M w => Φ M w ∧ LF q' (appP st no mark L) M w) → K 0 (LedO q' (appP st no mark L) ++ R) (fun M w => Φ M w ∧ LF q' (appP st no mark L) M w)) :
    Calls Tryd.prog F.ledger_Ledger_Append #[led q, .int .i64 no, .int .i64 mark, .slice p L.length cap] w fun e w' => ∃ n, e = .returned (.int .i64 n) ∧ ∃ R' Φ', Stable Φ' ∧ Ctx W w' (R' ++ G) Φ' ∧ K n R' Φ' := by
  have hth := (hL.go _ _ c.phi).there
  obtain ⟨cs, c1⟩ := srcOf c (hL.go _ _ c.phi)
  refine (Append_use (Φ := fun M w => Φ M w ∧ SrcF p L cs M w) hq hs hk (src_fact hth fun M w h => h.2) hlen hrow htx c1 (K := fun n R' Φ' => ∃ Φ2, Stable Φ2 ∧ (∀ M w, Φ' M w → Φ2 M w) ∧ K n R' Φ2)
    (fun hz => ⟨Φ, inferInstance, fun M w h => h.1, h0 hz⟩) (fun q' hz hf hlb hq' _ => ⟨_, inferInstance, fun M w h => ⟨h.1.1, h.2⟩, h1 q' hz hf hlb hq' inferInstance⟩)).mono fun e w' ⟨n, he, R', Φ', hst, cx, Φ2, hst2, hw, hK⟩ => ⟨n, he, R', Φ2, hst2, cx.weak hw, hK⟩
end

/-! ### small -/
abbrev v7 : List ValD := [⟨0, 7, ByteArray.mk #[]⟩]
abbrev v8 : List ValD := [⟨0, 8, ByteArray.mk #[]⟩]
abbrev sL1 : List LineD := [⟨1, 1, 5, v7, 2, 0, 0⟩]
abbrev sL2 : List LineD := [⟨2, 3, 5, v7, -1, 1, 0⟩, ⟨3, 3, 12, v8, 1, 0, 0⟩]
abbrev sL3 : List LineD := [⟨4, 4, 5, v7, -2, 1, 0⟩]
abbrev sT1 : LedD := appP ⟨[], []⟩ 1 10 sL1
abbrev sT2 : LedD := appP sT1 3 20 sL2
theorem s_c1 : checkP ⟨[], []⟩ 1 10 sL1 = 0 := by decide +kernel
theorem s_c2 : checkP sT1 3 20 sL2 = 0 := by decide +kernel
theorem s_c3 : checkP sT2 4 20 sL3 = 7 := by decide +kernel
theorem s_cnt : cntL sT2.lines (5, rowB v7) = 1 := by decide +kernel
theorem s_net : netP sT2.lines = [⟨5, v7, 1⟩, ⟨12, v8, 1⟩] := by decide +kernel
theorem s_at : netP (sT2.lines.take (endP sT2.bats 1 0)) = [⟨5, v7, 2⟩] := by decide +kernel
theorem v7_rep {M : List Nat} {w : World} : Gv.rep M w [.int .i64 0, .int .i64 7, .string (ByteArray.mk #[])] (⟨0, 7, ByteArray.mk #[]⟩ : ValD) := val_rep (v := ⟨0, 7, ByteArray.mk #[]⟩) (by unfold I64; decide)
theorem v8_rep {M : List Nat} {w : World} : Gv.rep M w [.int .i64 0, .int .i64 8, .string (ByteArray.mk #[])] (⟨0, 8, ByteArray.mk #[]⟩ : ValD) := val_rep (v := ⟨0, 8, ByteArray.mk #[]⟩) (by unfold I64; decide)
end Go.Proofs.YtbkpfhhhbhaecaaDoor
end

/-
  The examples of the law of ledgers, walked.
-/
section
set_option linter.unusedVariables false
set_option linter.unusedSimpArgs false
namespace Go.Proofs.YtbkpfhhhbhaecaaDoor
open Go.Vc


theorem Ctx.rev3 {W w : World} {S : List Own} {Φ : PW} [Stable Φ] {a b x : Own} (c : Ctx W w (a :: b :: x :: S) Φ) : Ctx W w (x :: b :: a :: S) Φ := c.perm (List.Perm.append_right S (List.reverse_perm [x, b, a]))
theorem line_s {M : List Nat} {w : World} {no b t n c : Int} {r : List ValD} {k : Nat} (hr : r.length = 1) (h : I64 no ∧ I64 b ∧ I64 t ∧ I64 n ∧ I64 c) (hs : Sl M w (some ⟨k, 0, none⟩) r) :
    Gv.rep M w [.int .i64 no, .int .i64 b, .int .i64 t, .slice (some ⟨k, 0, none⟩) 1 1, .int .i64 n, .int .i64 c, .int .i64 0] (⟨no, b, t, r, n, c, 0⟩ : LineD) := by
  have := rep_line (x := ⟨no, b, t, r, n, c, 0⟩) (p := some ⟨k, 0, none⟩) (c := 1) (M := M) (w := w) (by show r.length ≤ 1; omega) (by decide) ⟨h.1, h.2.1, h.2.2.1, h.2.2.2.1, h.2.2.2.2, by show I64 0; unfold I64; omega⟩ hs
  unfold LineD.cells at this
  simp only [hr] at this
  exact this
theorem delta_s {M : List Nat} {w : World} {t n : Int} {r : List ValD} {k : Nat} (hr : r.length = 1) (h : I64 t ∧ I64 n) (hs : Sl M w (some ⟨k, 0, none⟩) r) :
    Gv.rep M w [.int .i64 t, .slice (some ⟨k, 0, none⟩) 1 1, .int .i64 n] (⟨t, r, n⟩ : DeltaD) := by
  have := rep_delta (x := ⟨t, r, n⟩) (p := some ⟨k, 0, none⟩) (c := 1) (M := M) (w := w) (by show r.length ≤ 1; omega) (by decide) h.1 h.2 hs
  unfold DeltaD.cells at this
  simp only [hr] at this
  exact this
theorem s_s1 : LedS sT1 := ⟨by decide, by decide, by decide, by decide, by decide⟩
theorem s_s2 : LedS sT2 := ⟨by decide, by decide, by decide, by decide, by decide⟩
theorem s_cnt0 : CntOk ⟨[], []⟩ := fun k => ⟨Int.le_refl 0, by show (0 : Int) ≤ _; omega⟩

set_option maxHeartbeats 4000000 in
theorem small41_in {Φ : PW} [Stable Φ] [hT : Has Φ TabI] : GivesIn Φ Tryd.prog F.erratalaw41_small #[] (.bool true) := by
  refine gives_in (Berratalaw41_small_run) fun W R => ?_
  refine fun w G cx => New_to cx fun q hq st0 => Br.intro (fun h => by cases h) (fun _ => fun k9 k10 k11 w G cx => ?_)
  have cx := Ctx.rev3 (S := (LedO q ⟨[], []⟩ ++ R) ++ G) cx
  obtain ⟨ca, ha⟩ := Ctx.freezeBlk (α := ValD) (l := v7) cx (Elems.one v7_rep)
  have ca := ca.add (Ψ := fun M w => Sl M w (some ⟨k9, 0, none⟩) v7) ha
  obtain ⟨cb, hb⟩ := Ctx.freezeBlk (α := ValD) (l := v8) ca (Elems.one v8_rep)
  have cb := cb.add (Ψ := fun M w => Sl M w (some ⟨k10, 0, none⟩) v8) hb
  obtain ⟨cc, hc⟩ := Ctx.freezeBlk (α := LineD) (l := sL1) cb (Elems.one (line_s rfl (by unfold I64; decide) cb.phi.1.2))
  have cc := cc.add (Ψ := fun M w => Sl M w (some ⟨k11, 0, none⟩) sL1) hc
  clear cx ca ha cb hb hc
  refine Append_to (q := q) (st := ⟨[], []⟩) (L := sL1) (no := 1) (mark := 10) hq new_s s_cnt0 (by decide) (by decide) (by decide) cc (fun h => absurd s_c1 h) fun q1 _ hf1 hlb1 hq1 st1 => ?_
  clear cc
  have hc1 : CntOk sT1 := (check_ok s_c1).cnt hf1 s_cnt0
  have hq1 : LedQ q1 sT1 := hq1
  rw [← hlb1]
  refine fun k19 w G cx => ?_
  obtain ⟨cd, hd⟩ := Ctx.freezeBlk (α := LineD) (l := sL2) cx (Elems.two (cs := [.int .i64 2, .int .i64 3, .int .i64 5, .slice (some ⟨k9, 0, none⟩) 1 1, .int .i64 (-1), .int .i64 1, .int .i64 0]) (line_s rfl (by unfold I64; decide) (Ctx.has (Ψ := fun M w => Sl M w (some ⟨k9, 0, none⟩) v7) cx).phi) (line_s rfl (by unfold I64; decide) (Ctx.has (Ψ := fun M w => Sl M w (some ⟨k10, 0, none⟩) v8) cx).phi))
  have cd := cd.add (Ψ := fun M w => Sl M w (some ⟨k19, 0, none⟩) sL2) hd
  clear cx hd
  refine Append_to (q := q1) (st := sT1) (L := sL2) (no := 3) (mark := 20) hq1 s_s1 hc1 (by decide) (by decide) (by decide) cd (fun h => absurd s_c2 h) fun q2 _ hf2 hlb2 hq2 st2 => ?_
  clear cd
  have hc2 : CntOk sT2 := (check_ok s_c2).cnt hf2 hc1
  have hq2 : LedQ q2 sT2 := hq2
  rw [← hlb2]
  refine fun k27 w G cx => ?_
  obtain ⟨ce, he⟩ := Ctx.freezeBlk (α := LineD) (l := sL3) cx (Elems.one (line_s rfl (by unfold I64; decide) (Ctx.has (Ψ := fun M w => Sl M w (some ⟨k9, 0, none⟩) v7) cx).phi))
  have ce := ce.add (Ψ := fun M w => Sl M w (some ⟨k27, 0, none⟩) sL3) he
  clear cx he
  refine Append_to (q := q2) (st := sT2) (L := sL3) (no := 4) (mark := 20) hq2 s_s2 hc2 (by decide) (by decide) (by decide) ce (fun _ => ?_) fun q3 hz => absurd (hz.symm.trans s_c3) (by decide)
  clear ce
  rw [s_c3]
  refine fun w G cx => Causes_to (q := q2) (st := sT2) cx ?_
  clear cx
  refine Br.intro (fun _ => Br.intro (fun _ => Br.intro (fun _ => ?_) (fun h => absurd rfl (of_decide_eq_false h))) (fun h => absurd rfl (of_decide_eq_false h))) (fun h => absurd rfl (of_decide_eq_false h))
  have hcq := fun (Ψ : PW) (s : Stable Ψ) (h1 : Has Ψ TabI) (h2 : Has Ψ (fun M w => Sl M w (some ⟨k9, 0, none⟩) v7)) => Count_q (Φ := Ψ) (q := q2) (st := sT2) (t := 5) (r := v7) (p := some ⟨k9, 0, none⟩) (cap := 1) hq2 (by decide) (by decide)
  rw [s_cnt] at hcq
  refine fun w G cx => (hcq _ inferInstance inferInstance inferInstance).toI cx ?_
  clear cx hcq
  refine Br.intro (fun _ => Br.intro (fun _ => Br.intro (fun _ => Br.intro (fun _ => ?_) (fun h => absurd rfl (of_decide_eq_false h))) (fun h => absurd rfl (of_decide_eq_false h))) (fun h => absurd rfl (of_decide_eq_false h))) (fun h => absurd rfl (of_decide_eq_false h))
  have hnq := fun (Ψ : PW) (s : Stable Ψ) (h1 : Has Ψ (LF q2 sT2)) => Net_q (Φ := Ψ) (q := q2) (st := sT2) hq2 s_s2
  rw [s_net] at hnq
  refine fun w G cx => (hnq _ inferInstance inferInstance).tot cx fun p1 c1 _ _ _ st3 => ?_
  clear cx hnq
  refine fun k60 w G cx => ?_
  obtain ⟨cf, hf⟩ := Ctx.freezeBlk (α := DeltaD) (l := [⟨5, v7, 1⟩, ⟨12, v8, 1⟩]) cx (Elems.two (cs := [.int .i64 5, .slice (some ⟨k9, 0, none⟩) 1 1, .int .i64 1]) (delta_s rfl (by unfold I64; decide) (Ctx.has (Ψ := fun M w => Sl M w (some ⟨k9, 0, none⟩) v7) cx).phi) (delta_s rfl (by unfold I64; decide) (Ctx.has (Ψ := fun M w => Sl M w (some ⟨k10, 0, none⟩) v8) cx).phi))
  have cf := cf.add (Ψ := fun M w => Sl M w (some ⟨k60, 0, none⟩) ([⟨5, v7, 1⟩, ⟨12, v8, 1⟩] : List DeltaD)) hf
  clear cx hf
  refine (EqualH (a := [⟨5, v7, 1⟩, ⟨12, v8, 1⟩]) (b := [⟨5, v7, 1⟩, ⟨12, v8, 1⟩]) (p := p1) (cap := c1) (r := some ⟨k60, 0, none⟩) (cap2 := 2) (by decide)).toB cf ?_
  clear cf
  rw [decide_eq_true rfl]
  refine Br.intro (fun _ => ?_) (fun h => by cases h)
  have haq := fun (Ψ : PW) (s : Stable Ψ) (h1 : Has Ψ (LF q2 sT2)) => At_q (Φ := Ψ) (q := q2) (st := sT2) (no := 1) hq2 s_s2
  rw [s_at] at haq
  refine fun w G cx => (haq _ inferInstance inferInstance).tot cx fun p2 c2 _ _ _ st4 => ?_
  clear cx haq
  refine fun k77 w G cx => ?_
  obtain ⟨cg, hg⟩ := Ctx.freezeBlk (α := DeltaD) (l := [⟨5, v7, 2⟩]) cx (Elems.one (delta_s rfl (by unfold I64; decide) (Ctx.has (Ψ := fun M w => Sl M w (some ⟨k9, 0, none⟩) v7) cx).phi))
  have cg := cg.add (Ψ := fun M w => Sl M w (some ⟨k77, 0, none⟩) ([⟨5, v7, 2⟩] : List DeltaD)) hg
  clear cx hg
  refine (EqualH (a := [⟨5, v7, 2⟩]) (b := [⟨5, v7, 2⟩]) (p := p2) (cap := c2) (r := some ⟨k77, 0, none⟩) (cap2 := 1) (by decide)).toB cg ?_
  clear cg
  rw [decide_eq_true rfl]
  exact fun w G cx => ⟨rfl, Ctx.has (Ctx.right (S := LedO q2 sT2) (cx.re (List.append_assoc _ _ _))).left⟩
end Go.Proofs.YtbkpfhhhbhaecaaDoor
end

/-
  The step 'fitted(l[i], a.Last(), a.Mark(), a.Next())' of the laws of ledgers (printed by fittree.py).
-/
section
set_option linter.unusedVariables false
set_option linter.unusedSimpArgs false
namespace Go.Proofs.YtbkpfhhhbhaecaaDoor
open Go.Vc

def FitTree (lP : Option Addr) (lN : Nat) (n13 : Int) (p4 : Option Addr) (W : World) (R14 : List Own) (I15 : PW) (I19 : Nat → Nat → List Own → PW → Prop) : Prop :=
  ∃ (R20 : List Own), ∃ (Φ21 : PW), Stable Φ21 ∧ (∀ (w22 : World) (R23 : List Own), Ctx W w22 (R14 ++ R23) I15 → Ctx W w22 (R20 ++ R23) Φ21) ∧ (0 ≤ n13 ∧
  n13 < (↑lN : Int)) ∧ ptrK none lP fun (k24 k25 : Nat) => ∃ (n26 : Int), ∃ (n27 : Int), ∃ (p28 : Option Addr), ∃ (k29 : Nat), ∃ (k30 : Nat), ∃ (c31 : Bool),
  (∀ (w32 : World) (R33 : List Own), Ctx W w32 (R20 ++ R33) Φ21 → ∃ (n34 : Int), ∃ (n35 : Int), ∃ (p36 : Option Addr), ∃ (k37 : Nat), ∃ (k38 : Nat), ∃ (c39
  : Bool), RowAt w32 k24 (k25 + n13.toNat * 4) [Value.int IntKind.i64 n34, Value.int IntKind.i64 n35, Value.slice p36 k37 k38, Value.bool c39] ∧ Value.agg
  #[Value.int IntKind.i64 n34, Value.int IntKind.i64 n35, Value.slice p36 k37 k38, Value.bool c39] = Value.agg #[Value.int IntKind.i64 n26, Value.int IntKind.i64
  n27, Value.slice p28 k29 k30, Value.bool c31]) ∧ (∀ (w40 : World) (R41 : List Own), Ctx W w40 (R14 ++ R41) I15 → Calls Tryd.prog F.ledger_Ledger_Last #[Value.pointer
  p4] w40 fun (e42 : Ending) (w43 : World) => ∃ (n44 : Int), e42 = Ending.returned (Value.int IntKind.i64 n44) ∧ ∃ (R45 : List Own), ∃ (Φ46 : PW), Stable
  Φ46 ∧ Ctx W w43 (R45 ++ R41) Φ46 ∧ (∀ (w47 : World) (R48 : List Own), Ctx W w47 (R45 ++ R48) Φ46 → Ctx W w47 (R20 ++ R48) Φ21) ∧ (∀ (w49 : World) (R50
  : List Own), Ctx W w49 (R45 ++ R50) Φ46 → Calls Tryd.prog F.ledger_Ledger_Mark #[Value.pointer p4] w49 fun (e51 : Ending) (w52 : World) => ∃ (n53 : Int),
  e51 = Ending.returned (Value.int IntKind.i64 n53) ∧ ∃ (R54 : List Own), ∃ (Φ55 : PW), Stable Φ55 ∧ Ctx W w52 (R54 ++ R50) Φ55 ∧ (∀ (w56 : World) (R57 :
  List Own), Ctx W w56 (R54 ++ R57) Φ55 → Ctx W w56 (R20 ++ R57) Φ21) ∧ (∀ (w58 : World) (R59 : List Own), Ctx W w58 (R54 ++ R59) Φ55 → Calls Tryd.prog F.ledger_Ledger_Next
  #[Value.pointer p4] w58 fun (e60 : Ending) (w61 : World) => ∃ (n62 : Int), e60 = Ending.returned (Value.int IntKind.i64 n62) ∧ ∃ (R63 : List Own), ∃ (Φ64
  : PW), Stable Φ64 ∧ Ctx W w61 (R63 ++ R59) Φ64 ∧ (∀ (w65 : World) (R66 : List Own), Ctx W w65 (R63 ++ R66) Φ64 → Ctx W w65 (R20 ++ R66) Φ21) ∧ (∀ (w67
  : World) (R68 : List Own), Ctx W w67 (R63 ++ R68) Φ64 → Calls Tryd.prog F.erratalaw41_fitted #[Value.agg #[Value.int IntKind.i64 n26, Value.int IntKind.i64
  n27, Value.slice p28 k29 k30, Value.bool c31], Value.int IntKind.i64 n44, Value.int IntKind.i64 n53, Value.int IntKind.i64 n62] w67 fun (e69 : Ending)
  (w70 : World) => ∃ (n71 : Int), ∃ (n72 : Int), ∃ (p73 : Option Addr), ∃ (k74 : Nat), ∃ (k75 : Nat), ∃ (c76 : Bool), e69 = Ending.returned (Value.agg #[Value.int
  IntKind.i64 n71, Value.int IntKind.i64 n72, Value.slice p73 k74 k75, Value.bool c76]) ∧ ∃ (R77 : List Own), ∃ (Φ78 : PW), Stable Φ78 ∧ Ctx W w70 (R77 ++
  R68) Φ78 ∧ (∀ (w79 : World) (R80 : List Own), Ctx W w79 (R77 ++ R80) Φ78 → Ctx W w79 (R20 ++ R80) Φ21) ∧ (∀ (k81 : Nat), (∀ (w82 : World) (R83 : List Own),
  Ctx W w82 (Own.blk k81 [Value.int IntKind.i64 0, Value.int IntKind.i64 0, Value.slice none 0 0, Value.bool false] 60 :: R77 ++ R83) Φ78 → Ctx W w82 (R20
  ++ R83) Φ21) ∧ ∀ (w84 : World) (R85 : List Own), Ctx W w84 (Own.blk k81 [Value.int IntKind.i64 0, Value.int IntKind.i64 0, Value.slice none 0 0, Value.bool
  false] 60 :: R77 ++ R85) Φ78 → CanWrite w84 k81 0 4 ∧ ∀ (w86 : World), w86 = w84.setCells k81 0 [Value.int IntKind.i64 n71, Value.int IntKind.i64 n72,
  Value.slice p73 k74 k75, Value.bool c76] → ∃ (R87 : List Own), ∃ (Φ88 : PW), Stable Φ88 ∧ Ctx W w86 (R87 ++ R85) Φ88 ∧ ∃ (R89 : List Own), ∃ (Φ90 : PW),
  Stable Φ90 ∧ (∀ (w91 : World) (R92 : List Own), Ctx W w91 (R87 ++ R92) Φ88 → Ctx W w91 (R89 ++ R92) Φ90) ∧ I19 k81 0 R89 Φ90) ∧ True) ∧ (∀ (k93 : Nat),
  (∀ (w94 : World) (R95 : List Own), Ctx W w94 (Own.blk k93 [Value.int IntKind.i64 0, Value.int IntKind.i64 0, Value.slice none 0 0, Value.bool false] 60
  :: R63 ++ R95) Φ64 → Ctx W w94 (R20 ++ R95) Φ21) ∧ (∀ (w96 : World) (R97 : List Own), Ctx W w96 (Own.blk k93 [Value.int IntKind.i64 0, Value.int IntKind.i64
  0, Value.slice none 0 0, Value.bool false] 60 :: R63 ++ R97) Φ64 → Calls Tryd.prog F.erratalaw41_fitted #[Value.agg #[Value.int IntKind.i64 n26, Value.int
  IntKind.i64 n27, Value.slice p28 k29 k30, Value.bool c31], Value.int IntKind.i64 n44, Value.int IntKind.i64 n53, Value.int IntKind.i64 n62] w96 fun (e98
  : Ending) (w99 : World) => ∃ (n100 : Int), ∃ (n101 : Int), ∃ (p102 : Option Addr), ∃ (k103 : Nat), ∃ (k104 : Nat), ∃ (c105 : Bool), e98 = Ending.returned
  (Value.agg #[Value.int IntKind.i64 n100, Value.int IntKind.i64 n101, Value.slice p102 k103 k104, Value.bool c105]) ∧ ∃ (R106 : List Own), ∃ (Φ107 : PW),
  Stable Φ107 ∧ Ctx W w99 (R106 ++ R97) Φ107 ∧ (∀ (w108 : World) (R109 : List Own), Ctx W w108 (R106 ++ R109) Φ107 → Ctx W w108 (R20 ++ R109) Φ21) ∧ ∀ (w110
  : World) (R111 : List Own), Ctx W w110 (R106 ++ R111) Φ107 → CanWrite w110 k93 0 4 ∧ ∀ (w112 : World), w112 = w110.setCells k93 0 [Value.int IntKind.i64
  n100, Value.int IntKind.i64 n101, Value.slice p102 k103 k104, Value.bool c105] → ∃ (R113 : List Own), ∃ (Φ114 : PW), Stable Φ114 ∧ Ctx W w112 (R113 ++
  R111) Φ114 ∧ ∃ (R115 : List Own), ∃ (Φ116 : PW), Stable Φ116 ∧ (∀ (w117 : World) (R118 : List Own), Ctx W w117 (R113 ++ R118) Φ114 → Ctx W w117 (R115 ++
  R118) Φ116) ∧ I19 k93 0 R115 Φ116) ∧ True) ∧ True) ∧ (∀ (k119 : Nat), (∀ (w120 : World) (R121 : List Own), Ctx W w120 (Own.blk k119 [Value.int IntKind.i64
  0, Value.int IntKind.i64 0, Value.slice none 0 0, Value.bool false] 60 :: R54 ++ R121) Φ55 → Ctx W w120 (R20 ++ R121) Φ21) ∧ (∀ (w122 : World) (R123 :
  List Own), Ctx W w122 (Own.blk k119 [Value.int IntKind.i64 0, Value.int IntKind.i64 0, Value.slice none 0 0, Value.bool false] 60 :: R54 ++ R123) Φ55 →
  Calls Tryd.prog F.ledger_Ledger_Next #[Value.pointer p4] w122 fun (e124 : Ending) (w125 : World) => ∃ (n126 : Int), e124 = Ending.returned (Value.int IntKind.i64
  n126) ∧ ∃ (R127 : List Own), ∃ (Φ128 : PW), Stable Φ128 ∧ Ctx W w125 (R127 ++ R123) Φ128 ∧ (∀ (w129 : World) (R130 : List Own), Ctx W w129 (R127 ++ R130)
  Φ128 → Ctx W w129 (R20 ++ R130) Φ21) ∧ (∀ (w131 : World) (R132 : List Own), Ctx W w131 (R127 ++ R132) Φ128 → Calls Tryd.prog F.erratalaw41_fitted #[Value.agg
  #[Value.int IntKind.i64 n26, Value.int IntKind.i64 n27, Value.slice p28 k29 k30, Value.bool c31], Value.int IntKind.i64 n44, Value.int IntKind.i64 n53,
  Value.int IntKind.i64 n126] w131 fun (e133 : Ending) (w134 : World) => ∃ (n135 : Int), ∃ (n136 : Int), ∃ (p137 : Option Addr), ∃ (k138 : Nat), ∃ (k139
  : Nat), ∃ (c140 : Bool), e133 = Ending.returned (Value.agg #[Value.int IntKind.i64 n135, Value.int IntKind.i64 n136, Value.slice p137 k138 k139, Value.bool
  c140]) ∧ ∃ (R141 : List Own), ∃ (Φ142 : PW), Stable Φ142 ∧ Ctx W w134 (R141 ++ R132) Φ142 ∧ (∀ (w143 : World) (R144 : List Own), Ctx W w143 (R141 ++ R144)
  Φ142 → Ctx W w143 (R20 ++ R144) Φ21) ∧ ∀ (w145 : World) (R146 : List Own), Ctx W w145 (R141 ++ R146) Φ142 → CanWrite w145 k119 0 4 ∧ ∀ (w147 : World),
  w147 = w145.setCells k119 0 [Value.int IntKind.i64 n135, Value.int IntKind.i64 n136, Value.slice p137 k138 k139, Value.bool c140] → ∃ (R148 : List Own),
  ∃ (Φ149 : PW), Stable Φ149 ∧ Ctx W w147 (R148 ++ R146) Φ149 ∧ ∃ (R150 : List Own), ∃ (Φ151 : PW), Stable Φ151 ∧ (∀ (w152 : World) (R153 : List Own), Ctx
  W w152 (R148 ++ R153) Φ149 → Ctx W w152 (R150 ++ R153) Φ151) ∧ I19 k119 0 R150 Φ151) ∧ True) ∧ True) ∧ True) ∧ (∀ (k154 : Nat), (∀ (w155 : World) (R156
  : List Own), Ctx W w155 (Own.blk k154 [Value.int IntKind.i64 0, Value.int IntKind.i64 0, Value.slice none 0 0, Value.bool false] 60 :: R45 ++ R156) Φ46
  → Ctx W w155 (R20 ++ R156) Φ21) ∧ (∀ (w157 : World) (R158 : List Own), Ctx W w157 (Own.blk k154 [Value.int IntKind.i64 0, Value.int IntKind.i64 0, Value.slice
  none 0 0, Value.bool false] 60 :: R45 ++ R158) Φ46 → Calls Tryd.prog F.ledger_Ledger_Mark #[Value.pointer p4] w157 fun (e159 : Ending) (w160 : World) =>
  ∃ (n161 : Int), e159 = Ending.returned (Value.int IntKind.i64 n161) ∧ ∃ (R162 : List Own), ∃ (Φ163 : PW), Stable Φ163 ∧ Ctx W w160 (R162 ++ R158) Φ163
  ∧ (∀ (w164 : World) (R165 : List Own), Ctx W w164 (R162 ++ R165) Φ163 → Ctx W w164 (R20 ++ R165) Φ21) ∧ (∀ (w166 : World) (R167 : List Own), Ctx W w166
  (R162 ++ R167) Φ163 → Calls Tryd.prog F.ledger_Ledger_Next #[Value.pointer p4] w166 fun (e168 : Ending) (w169 : World) => ∃ (n170 : Int), e168 = Ending.returned
  (Value.int IntKind.i64 n170) ∧ ∃ (R171 : List Own), ∃ (Φ172 : PW), Stable Φ172 ∧ Ctx W w169 (R171 ++ R167) Φ172 ∧ (∀ (w173 : World) (R174 : List Own),
  Ctx W w173 (R171 ++ R174) Φ172 → Ctx W w173 (R20 ++ R174) Φ21) ∧ (∀ (w175 : World) (R176 : List Own), Ctx W w175 (R171 ++ R176) Φ172 → Calls Tryd.prog
  F.erratalaw41_fitted #[Value.agg #[Value.int IntKind.i64 n26, Value.int IntKind.i64 n27, Value.slice p28 k29 k30, Value.bool c31], Value.int IntKind.i64
  n44, Value.int IntKind.i64 n161, Value.int IntKind.i64 n170] w175 fun (e177 : Ending) (w178 : World) => ∃ (n179 : Int), ∃ (n180 : Int), ∃ (p181 : Option
  Addr), ∃ (k182 : Nat), ∃ (k183 : Nat), ∃ (c184 : Bool), e177 = Ending.returned (Value.agg #[Value.int IntKind.i64 n179, Value.int IntKind.i64 n180, Value.slice
  p181 k182 k183, Value.bool c184]) ∧ ∃ (R185 : List Own), ∃ (Φ186 : PW), Stable Φ186 ∧ Ctx W w178 (R185 ++ R176) Φ186 ∧ (∀ (w187 : World) (R188 : List Own),
  Ctx W w187 (R185 ++ R188) Φ186 → Ctx W w187 (R20 ++ R188) Φ21) ∧ ∀ (w189 : World) (R190 : List Own), Ctx W w189 (R185 ++ R190) Φ186 → CanWrite w189 k154
  0 4 ∧ ∀ (w191 : World), w191 = w189.setCells k154 0 [Value.int IntKind.i64 n179, Value.int IntKind.i64 n180, Value.slice p181 k182 k183, Value.bool c184]
  → ∃ (R192 : List Own), ∃ (Φ193 : PW), Stable Φ193 ∧ Ctx W w191 (R192 ++ R190) Φ193 ∧ ∃ (R194 : List Own), ∃ (Φ195 : PW), Stable Φ195 ∧ (∀ (w196 : World)
  (R197 : List Own), Ctx W w196 (R192 ++ R197) Φ193 → Ctx W w196 (R194 ++ R197) Φ195) ∧ I19 k154 0 R194 Φ195) ∧ True) ∧ True) ∧ True) ∧ True) ∧ (∀ (k198
  : Nat), (∀ (w199 : World) (R200 : List Own), Ctx W w199 (Own.blk k198 [Value.int IntKind.i64 0, Value.int IntKind.i64 0, Value.slice none 0 0, Value.bool
  false] 60 :: R14 ++ R200) I15 → Ctx W w199 (R20 ++ R200) Φ21) ∧ (∀ (w201 : World) (R202 : List Own), Ctx W w201 (Own.blk k198 [Value.int IntKind.i64 0,
  Value.int IntKind.i64 0, Value.slice none 0 0, Value.bool false] 60 :: R14 ++ R202) I15 → Calls Tryd.prog F.ledger_Ledger_Last #[Value.pointer p4] w201
  fun (e203 : Ending) (w204 : World) => ∃ (n205 : Int), e203 = Ending.returned (Value.int IntKind.i64 n205) ∧ ∃ (R206 : List Own), ∃ (Φ207 : PW), Stable
  Φ207 ∧ Ctx W w204 (R206 ++ R202) Φ207 ∧ (∀ (w208 : World) (R209 : List Own), Ctx W w208 (R206 ++ R209) Φ207 → Ctx W w208 (R20 ++ R209) Φ21) ∧ (∀ (w210
  : World) (R211 : List Own), Ctx W w210 (R206 ++ R211) Φ207 → Calls Tryd.prog F.ledger_Ledger_Mark #[Value.pointer p4] w210 fun (e212 : Ending) (w213 :
  World) => ∃ (n214 : Int), e212 = Ending.returned (Value.int IntKind.i64 n214) ∧ ∃ (R215 : List Own), ∃ (Φ216 : PW), Stable Φ216 ∧ Ctx W w213 (R215 ++ R211)
  Φ216 ∧ (∀ (w217 : World) (R218 : List Own), Ctx W w217 (R215 ++ R218) Φ216 → Ctx W w217 (R20 ++ R218) Φ21) ∧ (∀ (w219 : World) (R220 : List Own), Ctx W
  w219 (R215 ++ R220) Φ216 → Calls Tryd.prog F.ledger_Ledger_Next #[Value.pointer p4] w219 fun (e221 : Ending) (w222 : World) => ∃ (n223 : Int), e221 = Ending.returned
  (Value.int IntKind.i64 n223) ∧ ∃ (R224 : List Own), ∃ (Φ225 : PW), Stable Φ225 ∧ Ctx W w222 (R224 ++ R220) Φ225 ∧ (∀ (w226 : World) (R227 : List Own),
  Ctx W w226 (R224 ++ R227) Φ225 → Ctx W w226 (R20 ++ R227) Φ21) ∧ (∀ (w228 : World) (R229 : List Own), Ctx W w228 (R224 ++ R229) Φ225 → Calls Tryd.prog
  F.erratalaw41_fitted #[Value.agg #[Value.int IntKind.i64 n26, Value.int IntKind.i64 n27, Value.slice p28 k29 k30, Value.bool c31], Value.int IntKind.i64
  n205, Value.int IntKind.i64 n214, Value.int IntKind.i64 n223] w228 fun (e230 : Ending) (w231 : World) => ∃ (n232 : Int), ∃ (n233 : Int), ∃ (p234 : Option
  Addr), ∃ (k235 : Nat), ∃ (k236 : Nat), ∃ (c237 : Bool), e230 = Ending.returned (Value.agg #[Value.int IntKind.i64 n232, Value.int IntKind.i64 n233, Value.slice
  p234 k235 k236, Value.bool c237]) ∧ ∃ (R238 : List Own), ∃ (Φ239 : PW), Stable Φ239 ∧ Ctx W w231 (R238 ++ R229) Φ239 ∧ (∀ (w240 : World) (R241 : List Own),
  Ctx W w240 (R238 ++ R241) Φ239 → Ctx W w240 (R20 ++ R241) Φ21) ∧ ∀ (w242 : World) (R243 : List Own), Ctx W w242 (R238 ++ R243) Φ239 → CanWrite w242 k198
  0 4 ∧ ∀ (w244 : World), w244 = w242.setCells k198 0 [Value.int IntKind.i64 n232, Value.int IntKind.i64 n233, Value.slice p234 k235 k236, Value.bool c237]
  → ∃ (R245 : List Own), ∃ (Φ246 : PW), Stable Φ246 ∧ Ctx W w244 (R245 ++ R243) Φ246 ∧ ∃ (R247 : List Own), ∃ (Φ248 : PW), Stable Φ248 ∧ (∀ (w249 : World)
  (R250 : List Own), Ctx W w249 (R245 ++ R250) Φ246 → Ctx W w249 (R247 ++ R250) Φ248) ∧ I19 k198 0 R247 Φ248) ∧ True) ∧ True) ∧ True) ∧ True) ∧ True
end Go.Proofs.YtbkpfhhhbhaecaaDoor
end

/-
  The step 'fitted(l[i], a.Last(), a.Mark(), a.Next())' of the laws of ledgers, walked.
-/
section
set_option linter.unusedVariables false
set_option linter.unusedSimpArgs false
namespace Go.Proofs.YtbkpfhhhbhaecaaDoor
open Go.Vc


section
variable {Φ : PW} {q : LP} {st : LedD} {W w : World} {Q R S G : List Own} {P : Program} {f : FuncId} {args : Array Value}

theorem perm_in {B : Own} : (B :: (Q ++ R) ++ G).Perm (Q ++ (B :: (R ++ G))) := by
  rw [List.cons_append, List.append_assoc]
  exact List.perm_middle.symm
theorem _root_.Go.Vc.GivesQ.toI1 [Stable Φ] {B : Own} {n : Int} {k : IntKind} (h : GivesQ Q Φ P f args (.int k n)) (c : Ctx W w ((B :: (Q ++ R)) ++ G) Φ) {K : Int → List Own → PW → Prop} (hk : K n (B :: (Q ++ R)) Φ) :
    Calls P f args w fun e w' => ∃ n, e = .returned (.int k n) ∧ ∃ R' Φ', Stable Φ' ∧ Ctx W w' (R' ++ G) Φ' ∧ K n R' Φ' :=
  (h.go W w (B :: (R ++ G)) (c.perm perm_in)).mono fun e w' ⟨he, c'⟩ => ⟨n, he, B :: (Q ++ R), Φ, inferInstance, c'.perm perm_in.symm, hk⟩

abbrev fitOf (st : LedD) (x : PushD) : PushD := fitP x (lastP st).no (lastP st).mark ((st.lines.length : Int) + 1)
abbrev zPush : List Value := [.int .i64 0, .int .i64 0, .slice none 0 0, .bool false]

set_option maxHeartbeats 4000000 in
theorem fit_tree [Stable Φ] {l : List PushD} {i : Nat} (hlt : i < l.length) {lP : Option Addr} {g o : Nat} {cs : List (List Value)} (hp : lP = some ⟨g, o, none⟩) (hPin : ∀ M w, Φ M w → Pin g o cs l M w) {r : Option Addr} {rc : Nat} (he : cs.getD i [] = l[i].cells r rc)
    (h1 : l[i].l.length ≤ rc) (h2 : rc ≤ maxLen) (hl : l[i].l.length ≤ 100000) (hq : LedQ q st) (hs : LedS st) (hm : -1 ≤ (lastP st).mark ∧ (lastP st).mark ≤ 1099511627776) {K : Nat → Nat → List Own → PW → Prop}
    (hK : ∀ kb p' c', (fitOf st l[i]).l.length ≤ c' → c' ≤ maxLen → There p' (fitOf st l[i]).l.length → Stable (fun M w => Φ M w ∧ Sl M w p' (fitOf st l[i]).l) → K kb 0 (LedO q st ++ (.blk kb ((fitOf st l[i]).cells p' c') 60 :: R)) (fun M w => Φ M w ∧ Sl M w p' (fitOf st l[i]).l)) :
    FitTree lP l.length (i : Int) (some ⟨q.lb, 0, none⟩) W (LedO q st ++ R) Φ K := by
  have hsl := hs.lines
  have hh : Has Φ (fun M w => Sl M w r l[i].l) := ⟨fun M w h => pinp_sl (hPin M w h) hlt he⟩
  have fin1 : ∀ {kb : Nat} {p' : Option Addr} {c' : Nat}, (fitOf st l[i]).l.length ≤ c' → c' ≤ maxLen → There p' (fitOf st l[i]).l.length → Stable (fun M w => Φ M w ∧ Sl M w p' (fitOf st l[i]).l) → ∀ {w : World} {G : List Own}, Ctx W w ((.blk kb zPush 60 :: (LedO q st ++ R)) ++ G) (fun M w => Φ M w ∧ Sl M w p' (fitOf st l[i]).l) →
      CanWrite w kb 0 4 ∧ ∀ w2, w2 = w.setCells kb 0 ((fitOf st l[i]).cells p' c') → ∃ R1 Φ1, Stable Φ1 ∧ Ctx W w2 (R1 ++ G) Φ1 ∧ ∃ R2 Φ2, Stable Φ2 ∧ (∀ w F, Ctx W w (R1 ++ F) Φ1 → Ctx W w (R2 ++ F) Φ2) ∧ K kb 0 R2 Φ2 := fun {kb p' c'} k1 k2 k3 k4 {w G} cx =>
    ⟨cx.can 0 rfl (by show 0 + 4 ≤ 4; decide), fun w2 e => ⟨.blk kb ((fitOf st l[i]).cells p' c') 60 :: (LedO q st ++ R), _, k4, cx.puts 0 e rfl, LedO q st ++ (.blk kb ((fitOf st l[i]).cells p' c') 60 :: R), _, k4, fun w F c => Ctx.outl (Q := LedO q st) (R := .blk kb ((fitOf st l[i]).cells p' c') 60 :: R) (G := F) (Ctx.perm c perm_in), hK kb p' c' k1 k2 k3 k4⟩⟩
  have fitA : ∀ {R0 G : List Own} {w : World} {K : Int → Int → Option Addr → Nat → Nat → Bool → List Own → PW → Prop}, Ctx W w (R0 ++ G) Φ → (∀ p' c', (fitOf st l[i]).l.length ≤ c' → c' ≤ maxLen → There p' (fitOf st l[i]).l.length → Stable (fun M w => Φ M w ∧ Sl M w p' (fitOf st l[i]).l) → K (fitOf st l[i]).batch (fitOf st l[i]).mark p' (fitOf st l[i]).l.length c' (fitOf st l[i]).fit R0 (fun M w => Φ M w ∧ Sl M w p' (fitOf st l[i]).l)) →
      Calls Tryd.prog F.erratalaw41_fitted #[l[i].v r rc, .int .i64 (lastP st).no, .int .i64 (lastP st).mark, .int .i64 ((st.lines.length : Int) + 1)] w fun e w' => ∃ a b p' k c' f, e = .returned (.agg #[.int .i64 a, .int .i64 b, .slice p' k c', .bool f]) ∧ ∃ R' Φ', Stable Φ' ∧ Ctx W w' (R' ++ G) Φ' ∧ K a b p' k c' f R' Φ' := fun {R0 G w K} cx h =>
    fitted_to (x := l[i]) (R := R0) h1 h2 hl hm (by omega) cx h
  unfold FitTree
  refine ⟨LedO q st ++ R, Φ, inferInstance, fun w G c => c, by omega, ptrK_intro g o hp ⟨l[i].batch, l[i].mark, r, l[i].l.length, rc, l[i].fit, fun w G cx => ⟨_, _, _, _, _, _, by rw [Int.toNat_natCast]; exact pinp_rowAt (hPin _ _ cx.phi) hlt he, rfl⟩, ?_⟩⟩
  refine ⟨fun w G cx => (Last_q hq hs).toI cx ⟨fun w G c => c, ⟨fun w G cx => (Mark_q hq hs).toI cx ⟨fun w G c => c, ⟨fun w G cx => (Next_q hs).toI cx ⟨fun w G c => c, ?A, ?B⟩, ?C⟩⟩, ?D⟩⟩, ?E⟩
  case A => exact fun w G cx => fitA cx fun p' c' k1 k2 k3 k4 => ⟨fun w G c => c.fst, fun kb => ⟨fun w G c => Ctx.drop1 c.fst, fun w G cx => fin1 k1 k2 k3 k4 cx⟩, trivial⟩
  case B => exact ⟨fun kb => ⟨fun w G c => Ctx.drop1 c, fun w G cx => fitA cx fun p' c' k1 k2 k3 k4 => ⟨fun w G c => Ctx.drop1 c.fst, fun w G cx => fin1 k1 k2 k3 k4 cx⟩, trivial⟩, trivial⟩
  case C => exact ⟨fun kb => ⟨fun w G c => Ctx.drop1 c, fun w G cx => (Next_q hs).toI1 cx ⟨fun w G c => Ctx.drop1 c, fun w G cx => fitA cx fun p' c' k1 k2 k3 k4 => ⟨fun w G c => Ctx.drop1 c.fst, fun w G cx => fin1 k1 k2 k3 k4 cx⟩, trivial⟩, trivial⟩, trivial⟩
  case D => exact ⟨fun kb => ⟨fun w G c => Ctx.drop1 c, fun w G cx => (Mark_q hq hs).toI1 cx ⟨fun w G c => Ctx.drop1 c, fun w G cx => (Next_q hs).toI1 cx ⟨fun w G c => Ctx.drop1 c, fun w G cx => fitA cx fun p' c' k1 k2 k3 k4 => ⟨fun w G c => Ctx.drop1 c.fst, fun w G cx => fin1 k1 k2 k3 k4 cx⟩, trivial⟩, trivial⟩, trivial⟩, trivial⟩
  case E => exact ⟨fun kb => ⟨fun w G c => Ctx.drop1 c, fun w G cx => (Last_q hq hs).toI1 cx ⟨fun w G c => Ctx.drop1 c, fun w G cx => (Mark_q hq hs).toI1 cx ⟨fun w G c => Ctx.drop1 c, fun w G cx => (Next_q hs).toI1 cx ⟨fun w G c => Ctx.drop1 c, fun w G cx => fitA cx fun p' c' k1 k2 k3 k4 => ⟨fun w G c => Ctx.drop1 c.fst, fun w G cx => fin1 k1 k2 k3 k4 cx⟩, trivial⟩, trivial⟩, trivial⟩, trivial⟩, trivial⟩
end
end Go.Proofs.YtbkpfhhhbhaecaaDoor
end

/-
  The law PlaceKeys, walked.
-/
section
set_option linter.unusedVariables false
set_option linter.unusedSimpArgs false
namespace Go.Proofs.YtbkpfhhhbhaecaaDoor
open Go.Vc


section
variable {Φ : PW} {p q : Option Addr} {cap cap2 : Nat} {a b : List ValD}

theorem short_out {r : List ValD} {n : Int} (h : shortB r n = true) : (∀ v ∈ r, v.text.size ≤ 300) ∧ (r.length : Int) ≤ n := by
  unfold shortB at h
  rw [Bool.and_eq_true] at h
  exact ⟨fun v hv => of_decide_eq_true (List.all_eq_true.1 h.1 v hv), of_decide_eq_true h.2⟩
end
end Go.Proofs.YtbkpfhhhbhaecaaDoor
end

/-
  The law LedgerSums, in plain Lean.
-/
section
set_option linter.unusedVariables false
set_option linter.unusedSimpArgs false
namespace Go.Proofs.YtbkpfhhhbhaecaaDoor
open Go.Vc


/-- what holds of a ledger at any time -/
structure Inv (st : LedD) : Prop where
  cnt : CntOk st
  bats : BatsOk st
  time : ∀ x ∈ st.lines, x.time ≤ (lastP st).mark
  mark : -1 ≤ (lastP st).mark ∧ (lastP st).mark ≤ 1099511627776
  fit : RowsFit st.lines

theorem last_app (st : LedD) (no mark : Int) (L : List LineD) : lastP (appP st no mark L) = ⟨no, mark, (st.lines ++ L).length⟩ := by
  unfold lastP appP
  rw [List.getLast?_append]; rfl
theorem Inv.start : Inv ⟨[], []⟩ where
  cnt := s_cnt0
  bats := ⟨fun i h => by simp at h, by simp⟩
  time := by simp
  mark := by decide
  fit := fun x hx => by simp at hx
theorem Inv.app {st : LedD} {no mark : Int} {L : List LineD} (h : Inv st) (hs : LedS st) (ac : AccB st no mark L) (hf : RowsFit L) (h1 : I64 no) : Inv (appP st no mark L) where
  cnt := ac.cnt hf h.cnt
  bats := app_bats hs h.bats h1 (by have := h.mark; have := ac.gmark; have := ac.most; unfold I64; omega)
  time := fun x hx => by
    rw [last_app]
    show x.time ≤ mark
    rcases List.mem_append.1 hx with hx | hx
    · have := h.time x hx; have := ac.gmark; omega
    · obtain ⟨_, g⟩ := ac.mem hx
      exact g.t1
  mark := by
    rw [last_app]
    show -1 ≤ mark ∧ mark ≤ _
    have := h.mark; have := ac.gmark; have := ac.most; omega
  fit := fun x hx => by
    rcases List.mem_append.1 hx with hx | hx
    · exact h.fit x hx
    · exact hf x hx

theorem net_app (a b : List LineD) : netP (a ++ b) = addP (netP a) (netP b) := by
  unfold netP addP
  rw [List.map_append]
  exact consP_eq fun k => by rw [findP_app, findP_app, find_cons, find_cons]
theorem net_find (l : List LineD) (k : Key) : findP (netP l) k = w64 (sumK (l.map LineD.d) k) := by unfold netP; rw [find_cons]; rfl
theorem net_norm (l : List LineD) : Norm (netP l) := (consP_norm _).1
theorem net_key {l : List LineD} {z : DeltaD} (h : z ∈ netP l) : ∃ x ∈ l, x.key = z.key := by
  obtain ⟨y, hy, e⟩ := consP_key z h
  obtain ⟨x, hx, rfl⟩ := List.mem_map.1 hy
  exact ⟨x, hx, e⟩

theorem sum_cnt {z : LineD} (hz : ∀ v ∈ z.row, FitV v) (hzl : z.row.length ≤ 1000000) : ∀ {l : List LineD}, RowsFit l → (∀ x ∈ l, x.row.length ≤ 1000000) → sumK (l.map LineD.d) z.key = cntL l z.at
  | [], _, _ => rfl
  | x :: l, hf, hr => by
    have ih := sum_cnt hz hzl (l := l) (fun y hy => hf y (by simp [hy])) (fun y hy => hr y (by simp [hy]))
    show (if x.d.key = z.key then x.d.n else 0) + sumK (l.map LineD.d) z.key = (if x.at = z.at then x.n else 0) + cntL l z.at
    rw [ih]
    congr 1
    by_cases h : x.at = z.at
    · rw [if_pos h, if_pos (key_of_at (hf x (by simp)) hz (hr x (by simp)) hzl h)]; rfl
    · rw [if_neg h, if_neg]
      intro e
      apply h
      have e1 : x.time = z.time := congrArg Prod.fst e
      have e2 : x.row = z.row := congrArg Prod.snd e
      unfold LineD.at
      rw [e1, e2]

theorem net_multi {st : LedD} (h : Inv st) (hs : LedS st) : multiP (netP st.lines) = true := by
  rw [multi_law, Bool.not_eq_true']
  refine List.any_eq_false.2 fun z hz => ?_
  obtain ⟨x, hx, e⟩ := net_key hz
  rw [net_find, ← e, sum_cnt (h.fit x hx) (hs.rows x hx) h.fit hs.rows]
  obtain ⟨c1, c2⟩ := h.cnt x.at
  rw [w64_id (by unfold I64; omega)]
  simp; omega

theorem net_upto {st : LedD} (h : Inv st) : uptoP (netP st.lines) (lastP st).mark = netP st.lines := by
  have : lowP (netP st.lines) (lastP st).mark = netP st.lines := by
    refine List.filter_eq_self.2 fun z hz => decide_eq_true ?_
    obtain ⟨x, hx, e⟩ := net_key hz
    have e1 : x.time = z.time := congrArg Prod.fst e
    have := h.time x hx
    omega
  unfold uptoP
  rw [this]
  exact consP_cons _

theorem live_later {L : List LineD} (h : (L.any fun x => decide (x.cause ≠ 0)) = false) : ∀ x ∈ L, x.cause = 0 := fun x hx => by
  have := List.any_eq_false.1 h x hx
  simpa using this

theorem net_before {st : LedD} {no mark : Int} {L : List LineD} (h : Inv st) (ac : AccB st no mark L) (hl : (L.any fun x => decide (x.cause ≠ 0)) = false) : uptoP (netP (appP st no mark L).lines) (lastP st).mark = netP st.lines := by
  refine norm_unique (upto_norm _ _) (net_norm _) fun k => ?_
  rw [find_upto]
  show (if k.1 ≤ (lastP st).mark then findP (netP (st.lines ++ L)) k else 0) = _
  by_cases hk : k.1 ≤ (lastP st).mark
  · rw [if_pos hk, net_find, List.map_append, sumK_app]
    have h0 : sumK (L.map LineD.d) k = 0 := sumK_none fun y hy e => by
      obtain ⟨x, hx, rfl⟩ := List.mem_map.1 hy
      obtain ⟨_, g⟩ := ac.mem hx
      have hc := live_later hl x hx
      have h1 := g.caused
      unfold causedP at h1
      rw [if_pos hc, Bool.and_eq_true] at h1
      have h2 := of_decide_eq_true h1.1
      have e1 : x.time = k.1 := congrArg Prod.fst e
      omega
    rw [h0, Int.add_zero, net_find]
  · rw [if_neg hk, net_find]
    have h0 : sumK (st.lines.map LineD.d) k = 0 := sumK_none fun y hy e => by
      obtain ⟨x, hx, rfl⟩ := List.mem_map.1 hy
      have := h.time x hx
      have e1 : x.time = k.1 := congrArg Prod.fst e
      omega
    rw [h0]; rfl

theorem few_out {l : List PushD} {n : Int} (h : fewL l n = true) : (l.length : Int) ≤ n ∧ ∀ x ∈ l, x.l.length ≤ 12 ∧ (∀ y ∈ x.l, y.row.length ≤ 13 ∧ ∀ v ∈ y.row, v.text.size ≤ 300) := by
  unfold fewL at h
  rw [Bool.and_eq_true] at h
  refine ⟨of_decide_eq_true h.2, fun x hx => ?_⟩
  have h1 := List.all_eq_true.1 h.1 x hx
  unfold shortL at h1
  rw [Bool.and_eq_true] at h1
  have h2 := of_decide_eq_true h1.2
  refine ⟨by omega, fun y hy => ?_⟩
  obtain ⟨g1, g2⟩ := short_out (List.all_eq_true.1 h1.1 y hy)
  exact ⟨by omega, g1⟩
end Go.Proofs.YtbkpfhhhbhaecaaDoor
end

