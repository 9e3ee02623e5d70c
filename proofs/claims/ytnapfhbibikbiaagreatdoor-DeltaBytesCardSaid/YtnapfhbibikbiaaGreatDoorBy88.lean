/-
  For every input erratalaw28.DeltaBytes returns true, does not panic, comes to an end, and leaves what came in as it was; the variables that its row lists are as the program's text lays them.
  Conditions: none beyond the given statement's own (DeltaBytesCardSaid).
-/
import Derived.Test.YtnapfhbibikbiaaGreatDoorBy87
import Derived.Test.YtnapfhbibikbiaaGreatDoorBy86
import Derived.Lib.AppendZeros
import Derived.Lib.SliceRun
import Derived.Test.YtnapfhbibikbiaaGreatDoorCards
import Derived.MakeChecks
import Derived.Stop.LaidErr
import Derived.Lib.LaidTab
import Derived.Test.YtnapfhbibikbiaaGreatDoorTie
import Derived.SevenTiedAt
import Derived.LaidMore
import Derived.ChangeMaps5
import Derived.Test.YtnapfhbibikbiaaGreatDoorRows

/-
  Consolidate, walked.
-/
section
set_option linter.unusedVariables false
set_option linter.unusedSimpArgs false
namespace Go.Proofs.YtnapfhbibikbiaaGreatDoor
open Go.Vc


/-! ### one group, in plain Lean -/
theorem seg_sum {seg : List DeltaD} {k0 : Key} (h : ∀ x ∈ seg, x.key = k0) (k : Key) (hk : k ≠ k0) : sumK seg k = 0 := sumK_none fun x hx e => hk (by rw [← e, h x hx])

theorem Norm.snoc {c : List DeltaD} {x : DeltaD} (h : Norm c) (h1 : ∀ y ∈ c, cmpK y.key x.key < 0) (h2 : x.n ≠ 0) (h3 : I64 x.n) : Norm (c ++ [x]) := by
  refine ⟨List.pairwise_append.2 ⟨h.asc, List.pairwise_singleton _ _, fun y hy z hz => ?_⟩, fun y hy => ?_, fun y hy => ?_⟩
  · rw [List.mem_singleton.1 hz, cmpD_key]; exact h1 y hy
  · rcases List.mem_append.1 hy with hy | hy
    · exact h.nz y hy
    · rw [List.mem_singleton.1 hy]; exact h2
  · rcases List.mem_append.1 hy with hy | hy
    · exact h.i64 y hy
    · rw [List.mem_singleton.1 hy]; exact h3

/-- a group is put as one element, or left out -/
theorem find_group {A seg C : List DeltaD} {k0 : Key} {N : Int} (h : ∀ x ∈ seg, x.key = k0) (hN : N = findP seg k0) (k : Key) :
    (findP (A ++ (⟨k0.1, k0.2, N⟩ :: C)) k = findP (A ++ (seg ++ C)) k) ∧ (N = 0 → findP (A ++ C) k = findP (A ++ (seg ++ C)) k) := by
  have key : (((if k0 = k then N else 0) : Int) - sumK seg k) % 18446744073709551616 = 0 := by
    by_cases hk : k0 = k
    · subst hk
      rw [if_pos rfl, hN]
      exact w64_mod _
    · rw [if_neg hk, seg_sum h k (fun e => hk e.symm)]
      rfl
  have e1 : sumK (A ++ (⟨k0.1, k0.2, N⟩ :: C)) k = sumK A k + ((if k0 = k then N else 0) + sumK C k) := by rw [sumK_app]; rfl
  have e2 : sumK (A ++ (seg ++ C)) k = sumK A k + (sumK seg k + sumK C k) := by rw [sumK_app, sumK_app]
  refine ⟨?_, fun h0 => ?_⟩
  · unfold findP
    rw [e1, e2]
    exact w64_cong (by omega)
  · unfold findP
    rw [sumK_app, e2]
    refine w64_cong ?_
    rw [h0] at key
    have : ((if k0 = k then (0 : Int) else 0)) = 0 := by split <;> rfl
    omega

theorem find_snoc {seg : List DeltaD} {y : DeltaD} {k0 : Key} (hy : y.key = k0) : findP (seg ++ [y]) k0 = w64 (findP seg k0 + y.n) := by
  unfold findP
  rw [w64_l, sumK_app]
  simp only [sumK]
  rw [if_pos hy, Int.add_zero]

/-- where a slice of a sorted slice begins -/
theorem sub_at {g i k c : Nat} (h : k < c) : subPtr (some ⟨g, i * 3, none⟩) 3 k c = some ⟨g, (i + k) * 3, none⟩ := by
  unfold subPtr
  rw [if_neg (by omega), Option.map_some]
  congr 1
  unfold Addr.add
  split
  · rw [show k = 0 by omega, Nat.add_zero]
  · show Addr.mk g (i * 3 + k * 3) none = _
    rw [Nat.add_mul]

/-- what the outer loop knows -/
structure COuter (l : List DeltaD) (es outs : List DE) (i : Nat) : Prop where
  le : i ≤ es.length
  norm : Norm (outs.map DE.d)
  lt : ∀ x ∈ outs, ∀ y ∈ es.drop i, cmpK x.d.key y.d.key < 0
  find : ∀ k, findP (outs.map DE.d ++ (es.drop i).map DE.d) k = findP l k
  few : outs.length ≤ i

theorem COuter.step {l : List DeltaD} {es outs : List DE} {i : Nat} (h : COuter l es outs i) {X : DE} (hX : X ∈ es.drop i) {j : Nat} (hij : i + j ≤ es.length) (hj : 1 ≤ j) (hk : ∀ y ∈ (es.drop i).take j, y.d.key = X.d.key) {N : Int} (hN : N = findP (((es.drop i).take j).map DE.d) X.d.key)
    (hgt : ∀ y ∈ es.drop (i + j), cmpK X.d.key y.d.key < 0) : (N = 0 → COuter l es outs (i + j)) ∧ (N ≠ 0 → ∀ (p : Option Addr) (c : Nat), COuter l es (outs ++ [⟨⟨X.d.time, X.d.row, N⟩, p, c⟩]) (i + j)) := by
  have hdr : es.drop i = (es.drop i).take j ++ es.drop (i + j) := by rw [← List.drop_drop, List.take_append_drop]
  have hkm : ∀ x ∈ ((es.drop i).take j).map DE.d, x.key = X.d.key := fun x hx => by
    obtain ⟨y, hy, rfl⟩ := List.mem_map.1 hx
    exact hk y hy
  have hsub : ∀ y ∈ es.drop (i + j), y ∈ es.drop i := fun y hy => by rw [hdr]; exact List.mem_append_right _ hy
  have hf : ∀ k, findP (outs.map DE.d ++ (((es.drop i).take j).map DE.d ++ (es.drop (i + j)).map DE.d)) k = findP l k := fun k => by
    rw [← List.map_append, ← hdr]; exact h.find k
  refine ⟨fun h0 => ⟨hij, h.norm, fun x hx y hy => h.lt x hx y (hsub y hy), fun k => ?_, by have := h.few; omega⟩, fun h0 p c => ⟨hij, ?_, fun x hx y hy => ?_, fun k => ?_, by rw [List.length_append]; have := h.few; simp; omega⟩⟩
  · rw [← hf k]
    exact (find_group (A := outs.map DE.d) (C := (es.drop (i + j)).map DE.d) hkm hN k).2 h0
  · rw [List.map_append]
    refine Norm.snoc h.norm (fun y hy => ?_) h0 (by rw [hN]; exact w64_in _)
    obtain ⟨z, hz, rfl⟩ := List.mem_map.1 hy
    exact h.lt z hz X hX
  · rcases List.mem_append.1 hx with hx | hx
    · exact h.lt x hx y (hsub y hy)
    · rw [List.mem_singleton.1 hx]; exact hgt y hy
  · rw [← hf k, List.map_append, List.append_assoc]
    exact (find_group (A := outs.map DE.d) (C := (es.drop (i + j)).map DE.d) hkm hN k).1

theorem cmpFn_delta {Φ : PW} [Stable Φ] {es : List DE} (hrow : ∀ x ∈ es, x.d.row.length ≤ 1000000) : CmpFn (fun M w => Φ M w ∧ EPhi es M w) F.delta_compare #[] (fun x => x ∈ es) :=
  ⟨by kernel_rfl, fun x y hx hy => compareD_in x.d y.d x.p y.p x.c y.c (fun M w h => delta_row (h.2 x hx)) (fun M w h => delta_row (h.2 y hy)) (by have := hrow x hx; omega)⟩

theorem cell3 {w : World} {g o : Nat} {X : DE} (h : RowAt w g o X.cells) : w.cell? ⟨g, o + 2, none⟩ = some (.int .i64 X.d.n) := by
  have := h 2 (by simp)
  simpa using this

set_option maxHeartbeats 4000000 in
theorem Consolidate_new {Φ : PW} [Stable Φ] (p : Option Addr) (cap : Nat) (l : List DeltaD) (hΦ : ∀ M w, Φ M w → Sl M w p l) (hlen : l.length ≤ 1000000) (hrow : ∀ x ∈ l, x.row.length ≤ 1000000) : GivesNew Φ Tryz.prog F.delta_Consolidate #[.slice p l.length cap] (consP l) 36 := by
  refine gives_new (Bdelta_Consolidate_run p l.length cap) fun W R => ?_
  refine fun w G cx => (CloneD_in p cap l hΦ (by omega)).use cx fun p1 cap1 cs w cx => ?_
  obtain ⟨es0, rfl, hes⟩ := elems_ex cx.phi.2
  have hl : l.length = es0.length := by rw [← hes, List.length_map]
  have cx1 : Ctx W w (bufE p1 cap1 es0 :: (R ++ G)) (fun M w => Φ M w ∧ EPhi es0 M w) := by
    have h1 := cx.weak (Ψ := fun M w => Φ M w ∧ EPhi es0 M w) fun M w h => ⟨h.1, elems_e (by rw [hes]; exact h.2)⟩
    rw [hl] at h1
    exact h1
  have hrow0 : ∀ x ∈ es0, x.d.row.length ≤ 1000000 := fun x hx => hrow x.d (by rw [← hes]; exact List.mem_map_of_mem hx)
  have hf := cmpFn_delta (Φ := Φ) hrow0
  clear cx
  refine ⟨p1, es0.length, cap1, by rw [hl], bufE p1 cap1 es0 :: R, _, inferInstance, cx1, fun w G cx => ?_⟩
  refine SortStable_use (S := R ++ G) hf es0 (fun e h => h) cx (by omega) fun es w hp ha cx => ?_
  have hn : es0.length = es.length := hp.length_eq.symm
  have hi0 : ∀ x ∈ es, EPhi es0 = EPhi es0 := fun _ _ => rfl
  have cx2 : Ctx W w (bufE p1 cap1 es :: (R ++ G)) (fun M w => Φ M w ∧ EPhi es M w) := cx.weak fun M w h => ⟨h.1, fun x hx => h.2 x (hp.mem_iff.1 hx)⟩
  have hfind : ∀ k, findP (es.map DE.d) k = findP l k := fun k => by rw [← hes]; exact findP_perm (hp.map DE.d) k
  have hrowE : ∀ x ∈ es, x.d.row.length ≤ 1000000 := fun x hx => hrow0 x (hp.mem_iff.1 hx)
  have hcmp := (cmpFn_delta (Φ := Φ) hrowE).2
  have hpg : 0 < es.length → ∃ g, p1 = some ⟨g, 0, none⟩ := fun h => e_ptr cx2 h
  have hcap : es.length ≤ cap1 := (cx2.bufLen 0 rfl).2.1
  rw [hn]
  refine ⟨rfl, bufE p1 cap1 es :: R, _, inferInstance, cx2, ?_⟩
  clear hf hrow0 hi0 cx cx1 cx2 hrow hp hes
  refine exI_mk (fun sp sn sc op on oc R' Φ' k => ∃ (i : Nat) (outs : List DE), COuter l es outs i ∧ sn = es.length - i ∧ sn ≤ sc ∧ (∀ g, p1 = some ⟨g, 0, none⟩ → i < es.length → sp = some ⟨g, i * 3, none⟩) ∧ on = outs.length ∧ R' = bufE op oc outs :: bufE p1 cap1 es :: R ∧ Φ' = (fun M w => (Φ M w ∧ EPhi es M w) ∧ EPhi outs M w) ∧ k = es.length - i)
    ⟨⟨bufE none 0 [] :: bufE p1 cap1 es :: R, fun M w => (Φ M w ∧ EPhi es M w) ∧ EPhi ([] : List DE) M w, _, inferInstance, fun w G cx => ((cx.weak fun M w h => ⟨h, fun x hx => by cases hx⟩).nobuf 36 3), 0, [], ⟨Nat.zero_le _, Norm.nil, by simp, fun k => hfind k, Nat.le_refl _⟩, by omega, by omega, fun g hg _ => by rw [hg, Nat.zero_mul], rfl, rfl, rfl, rfl⟩, ?_⟩
  rintro sp sn sc op on oc R1 Φ1 k _ ⟨i, outs, hco, rfl, hsc, hsp, rfl, rfl, rfl, rfl⟩
  have hile := hco.le
  refine Br.intro (fun hlt => ?_) (fun hge => fun w G cx => ?_)
  · have hlt := of_decide_eq_true hlt
    have hlt : i < es.length := by omega
    obtain ⟨g, rfl⟩ := hpg (by omega)
    have hsp := hsp g rfl hlt
    subst hsp
    have hstP : Stable (fun M w => (Φ M w ∧ EPhi es M w) ∧ EPhi outs M w) := inferInstance
    obtain ⟨X, hX⟩ : ∃ X, es[i]? = some X := ⟨_, List.getElem?_eq_getElem hlt⟩
    have hXm : X ∈ es := List.mem_of_getElem? hX
    have hXd : X ∈ es.drop i := by
      rw [List.drop_eq_getElem_cons hlt]
      rw [List.getElem?_eq_getElem hlt] at hX
      rw [Option.some.inj hX]; simp
    have hdX : es.drop i = X :: es.drop (i + 1) := by
      rw [List.drop_eq_getElem_cons hlt]
      rw [List.getElem?_eq_getElem hlt] at hX
      rw [Option.some.inj hX]
    refine ⟨by omega, ptrK_intro g (i * 3) rfl fun w G cx => ⟨X.d.time, X.p, X.d.row.length, X.c, X.d.n, e_row cx.swap hX, fun _ => ?_⟩⟩
    obtain ⟨hIt, hIn⟩ : I64 X.d.time ∧ I64 X.d.n := by
      obtain ⟨_, _, _, _, _, h1, h2, _⟩ := delta_cells (cx.phi.1.2 X hXm)
      exact ⟨h1, h2⟩
    clear cx
    refine exI_mk (fun kI tm rp rn rc nn R' Φ' k => ∃ j : Nat, kI = j ∧ 1 ≤ j ∧ i + j ≤ es.length ∧ tm = X.d.time ∧ rp = X.p ∧ rn = X.d.row.length ∧ rc = X.c ∧ nn = findP (((es.drop i).take j).map DE.d) X.d.key ∧ (∀ y ∈ (es.drop i).take j, y.d.key = X.d.key) ∧ R' = bufE op oc outs :: bufE (some ⟨g, 0, none⟩) cap1 es :: R ∧ Φ' = (fun M w => (Φ M w ∧ EPhi es M w) ∧ EPhi outs M w) ∧ k = es.length - i - j)
      ⟨⟨_, _, _, hstP, fun w G cx => cx, 1, rfl, Nat.le_refl _, hlt, rfl, rfl, rfl, rfl, ?_, ?_, rfl, rfl, rfl⟩, ?_⟩
    · rw [hdX]
      show X.d.n = w64 ((if X.d.key = X.d.key then X.d.n else 0) + 0)
      rw [if_pos rfl, Int.add_zero, w64_id hIn]
    · rw [hdX]
      intro y hy
      simp at hy
      rw [hy]
    rintro kI _ _ _ _ nn R2 Φ2 k _ ⟨j, rfl, hj1, hj2, rfl, rfl, rfl, rfl, hnn, hkeys, rfl, rfl, rfl⟩
    have hXlen : X.d.row.length ≤ 1000000 := hrowE X hXm
    refine ⟨_, _, hstP, fun w G cx => cx, Br.intro (fun hlt2 => ?_) (fun hge2 => ?_)⟩
    case' refine_2 =>
      have hgt : ∀ y ∈ es.drop (i + j), cmpK X.d.key y.d.key < 0 := by
        have hge2 := of_decide_eq_false hge2
        rw [List.drop_eq_nil_of_le (by omega)]
        intro y hy; cases hy
    case' refine_1 =>
      have hlt2 := of_decide_eq_true hlt2
      have hij : i + j < es.length := by omega
      obtain ⟨Y, hY⟩ : ∃ Y, es[i + j]? = some Y := ⟨_, List.getElem?_eq_getElem hij⟩
      have hYm : Y ∈ es := List.mem_of_getElem? hY
      have hcall : GivesIn (fun M w => (Φ M w ∧ EPhi es M w) ∧ EPhi outs M w) Tryz.prog F.delta_compare #[.agg #[.int .i64 X.d.time, .slice X.p X.d.row.length X.c, .int .i64 nn], Y.v] (.int .i64 (cmpD ⟨X.d.time, X.d.row, nn⟩ Y.d)) :=
        compareD_in ⟨X.d.time, X.d.row, nn⟩ Y.d X.p Y.p X.c Y.c (fun M w h => show Sl M w X.p X.d.row from delta_row (h.1.2 X hXm)) (fun M w h => delta_row (h.1.2 Y hYm)) (by show X.d.row.length ≤ _; omega)
      have hYr : ∀ {w : World} {G : List Own}, Ctx W w (bufE op oc outs :: bufE (some ⟨g, 0, none⟩) cap1 es :: R ++ G) (fun M w => (Φ M w ∧ EPhi es M w) ∧ EPhi outs M w) → RowAt w g (i * 3 + (j : Int).toNat * 3) Y.cells := fun cx => by
        rw [Int.toNat_natCast, ← Nat.add_mul]; exact e_row cx.swap hY
      refine ⟨by omega, ptrK_intro g (i * 3) rfl ⟨Y.d.time, Y.p, Y.d.row.length, Y.c, Y.d.n, fun w G cx => ⟨_, Y.p, _, Y.c, _, hYr cx, rfl⟩, fun w G cx => hcall.use cx fun w cx => ⟨_, rfl, bufE op oc outs :: bufE (some ⟨g, 0, none⟩) cap1 es :: R, _, hstP, cx, Br.intro (fun hc => ?_) (fun hc => ?_)⟩⟩⟩
    case' refine_1.refine_1 =>
      have hc := of_decide_eq_true hc
      rw [cmpD_key] at hc
      have hk := (cmpK_cmp.eq _ _).1 hc
      have hk' : Y.d.key = X.d.key := hk.symm
      have htk : (es.drop i).take (j + 1) = (es.drop i).take j ++ [Y] := by
        have hlt3 : j < (es.drop i).length := by rw [List.length_drop]; omega
        rw [List.take_succ_eq_append_getElem hlt3]
        congr 2
        rw [List.getElem_drop]
        rw [List.getElem?_eq_getElem hij] at hY
        exact Option.some.inj hY
      refine ⟨by omega, ptrK_intro g (i * 3) rfl fun w G cx => ⟨Y.d.n, cell3 (hYr cx), by unfold I64; omega, _, _, es.length - i - (j + 1), hstP, fun w G cx => cx, ⟨j + 1, by omega, by omega, by omega, rfl, rfl, rfl, rfl, ?_, ?_, rfl, rfl, rfl⟩, by omega⟩⟩
      · rw [htk, List.map_append, hnn]
        exact (find_snoc hk').symm
      · rw [htk]
        intro y hy
        rcases List.mem_append.1 hy with hy | hy
        · exact hkeys y hy
        · rw [List.mem_singleton.1 hy]; exact hk'
    case' refine_1.refine_2 =>
      have hgt : ∀ y ∈ es.drop (i + j), cmpK X.d.key y.d.key < 0 := by
        have hc := of_decide_eq_false hc
        rw [cmpD_key] at hc
        have hXi : es[i] = X := by rw [List.getElem?_eq_getElem hlt] at hX; exact Option.some.inj hX
        have hYi : es[i + j] = Y := by rw [List.getElem?_eq_getElem hij] at hY; exact Option.some.inj hY
        have h1 : leE es[i] es[i + j] := asc_le ordE ha (by omega) hij
        rw [hXi, hYi] at h1
        have h1 : cmpK X.d.key Y.d.key < 0 := by
          have h2 : cmpK X.d.key Y.d.key ≤ 0 := by rw [← cmpD_key]; exact h1
          have h3 : cmpK X.d.key Y.d.key ≠ 0 := hc
          omega
        intro y hy
        obtain ⟨q, hq, rfl⟩ := List.getElem_of_mem hy
        rw [List.length_drop] at hq
        rw [List.getElem_drop]
        have h2 : leE es[i + j] es[i + j + q] := asc_le ordE ha (by omega) (by omega)
        rw [hYi] at h2
        have h2 : cmpK Y.d.key es[i + j + q].d.key ≤ 0 := by rw [← cmpD_key]; exact h2
        rcases Int.lt_or_eq_of_le h2 with h3 | h3
        · exact cmpK_cmp.trans _ _ _ h1 h3
        · rw [← (cmpK_cmp.eq _ _).1 h3]; exact h1
      clear hc hcall hYr
    all_goals
      obtain ⟨hz, hnz⟩ := hco.step hXd (by omega) hj1 hkeys hnn hgt
      refine Br.intro (fun h0 => fun w G cx => ?_) (fun h0 => ⟨by omega, _, _, es.length - (i + j), hstP, fun w G cx => cx, ⟨i + j, outs, hz (by have := of_decide_eq_false h0; omega), by rw [Int.toNat_natCast]; omega, by rw [Int.toNat_natCast]; omega, fun g' hg' h => by cases hg'; rw [Int.toNat_natCast]; exact sub_at (by omega), rfl, rfl, rfl, rfl⟩, by omega⟩)
      have h0 : nn ≠ 0 := of_decide_eq_true h0
      have hco2 := hnz h0
      have hfew := hco.few
      refine (CloneV_in (Φ := fun M w => (Φ M w ∧ EPhi es M w) ∧ EPhi outs M w) X.p X.c X.d.row (fun M w h => delta_row (h.1.2 X hXm)) (by omega)).use cx fun q qc vc w cx => ?_
      obtain ⟨_, hq1, hq2⟩ := cx.bufLen 0 rfl
      obtain ⟨cx3, hs, _⟩ := Ctx.freeze (α := ValD) cx.fst cx.phi.2
      have hst2 : Stable (fun M w => (fun M w => (Φ M w ∧ EPhi es M w) ∧ EPhi outs M w) M w ∧ Sl M w q X.d.row) := inferInstance
      refine ⟨q, _, qc, rfl, bufE op oc outs :: bufE (some ⟨g, 0, none⟩) cap1 es :: R, _, hst2, cx3.add hs, fun k w G cx => ?_⟩
      obtain ⟨p', cap', w', hrun, _, cx'⟩ := Ctx.app1 (P := Tryz.prog) (ts := 22) (ty := 22) (kb := #[false, false]) (size := 3) (bytes := 40) cx (by kernel_rfl) (by omega) rfl rfl (by omega) (by omega)
      have hcells : cellsE outs ++ [.int .i64 X.d.time, .slice q X.d.row.length qc, .int .i64 nn] = cellsE (outs ++ [⟨⟨X.d.time, X.d.row, nn⟩, q, qc⟩]) := by rw [cellsE_app]; rfl
      have hlen1 : outs.length + 1 = (outs ++ [(⟨⟨X.d.time, X.d.row, nn⟩, q, qc⟩ : DE)]).length := by simp
      have hnI : I64 nn := by rw [hnn]; exact w64_in _
      have hst3 : Stable (fun M w => (Φ M w ∧ EPhi es M w) ∧ EPhi (outs ++ [(⟨⟨X.d.time, X.d.row, nn⟩, q, qc⟩ : DE)]) M w) := inferInstance
      rw [hcells, hlen1] at cx'
      refine ⟨p', _, cap', w', hrun, bufE p' cap' (outs ++ [(⟨⟨X.d.time, X.d.row, nn⟩, q, qc⟩ : DE)]) :: bufE (some ⟨g, 0, none⟩) cap1 es :: R, _, hst3, cx'.weak fun M w h => ⟨h.1.1, fun x hx => ?_⟩, by omega, _, _, es.length - (i + j), hst3, fun w G cx => cx, ⟨i + j, _, hco2 q qc, by rw [Int.toNat_natCast]; omega, by rw [Int.toNat_natCast]; omega, fun g' hg' h => by cases hg'; rw [Int.toNat_natCast]; exact sub_at (by omega), hlen1, rfl, rfl, rfl⟩, by omega⟩
      rcases List.mem_append.1 hx with hx | hx
      · exact h.1.2 x hx
      · rw [List.mem_singleton.1 hx]
        exact rep_delta hq1 hq2 hIt hnI h.2
  · have hge := of_decide_eq_false hge
    have hi : i = es.length := by omega
    have hnorm := hco.norm
    have hfi := hco.find
    rw [hi, List.drop_length] at hfi
    have hc : consP l = outs.map DE.d := consP_is hnorm fun k => by have := hfi k; rw [List.map_nil, List.append_nil] at this; exact this
    have hol : (consP l).length = outs.length := by rw [hc, List.length_map]
    refine ⟨op, oc, cellsE outs, by rw [hol], ?_⟩
    have hstP : Stable (fun M w => (Φ M w ∧ EPhi es M w) ∧ EPhi outs M w) := inferInstance
    have cx3 : Ctx W w (bufE op oc outs :: R) (fun M w => (Φ M w ∧ EPhi es M w) ∧ EPhi outs M w) := (cx.left.swap).drop1
    rw [hol]
    exact cx3.weak fun M w h => ⟨h.1.1, by rw [hc]; exact e_elems h.2⟩

end Go.Proofs.YtnapfhbibikbiaaGreatDoor
end

/-
  Sub, Diff, Same, walked.
-/
section
set_option linter.unusedVariables false
set_option linter.unusedSimpArgs false
namespace Go.Proofs.YtnapfhbibikbiaaGreatDoor
open Go.Vc


/-- a consolidated list that nobody writes -/
theorem new_sl {Φ : PW} [Stable Φ] {P : Program} {f : FuncId} {args : Array Value} {l : List DeltaD} (h : GivesNew Φ P f args l 36) : GivesSl Φ P f args l id :=
  ⟨fun W w S c => (h.go W w S c).mono fun e w' ⟨p, cap, cs, he, cx⟩ => by
    obtain ⟨_, h1, h2⟩ := cx.bufLen 0 rfl
    obtain ⟨cx3, hs, _⟩ := Ctx.freeze (α := DeltaD) cx.fst cx.phi.2
    exact ⟨p, cap, he, h1, h2, cx3.add hs⟩⟩

theorem Consolidate_sl {Φ : PW} [Stable Φ] (p : Option Addr) (cap : Nat) (l : List DeltaD) (hΦ : ∀ M w, Φ M w → Sl M w p l) (hlen : l.length ≤ 1000000) (hrow : ∀ x ∈ l, x.row.length ≤ 1000000) : GivesSl Φ Tryz.prog F.delta_Consolidate #[.slice p l.length cap] (consP l) id :=
  new_sl (Consolidate_new p cap l hΦ hlen hrow)

/-- rows of what is consolidated are rows of what there was -/
theorem insD_row (x : DeltaD) {P : List ValD → Prop} (hx : P x.row) : ∀ {c : List DeltaD}, (∀ y ∈ c, P y.row) → ∀ z ∈ insD x c, P z.row
  | [], _, z, hz => by
    unfold insD at hz
    split at hz
    · cases hz
    · rw [List.mem_singleton.1 hz]; exact hx
  | y :: t, h, z, hz => by
    have hy := h y (by simp)
    have ht : ∀ q ∈ t, P q.row := fun q hq => h q (by simp [hq])
    unfold insD at hz
    split at hz
    · split at hz
      · exact h z hz
      · rcases List.mem_cons.1 hz with rfl | hz
        · exact hx
        · exact h z hz
    · split at hz
      · split at hz
        · exact ht z hz
        · rcases List.mem_cons.1 hz with rfl | hz
          · exact hy
          · exact ht z hz
      · rcases List.mem_cons.1 hz with rfl | hz
        · exact hy
        · exact insD_row x hx ht z hz
theorem consP_row {P : List ValD → Prop} : ∀ {l : List DeltaD}, (∀ x ∈ l, P x.row) → ∀ z ∈ consP l, P z.row
  | [], _, z, hz => by cases hz
  | x :: l, h, z, hz => insD_row x (h x (by simp)) (consP_row fun y hy => h y (by simp [hy])) z hz

/-! ### Sub -/
def negD (x : DeltaD) : DeltaD := ⟨x.time, x.row, w64 (0 - x.n)⟩
def subP (a b : List DeltaD) : List DeltaD := consP (a ++ b.map negD)

/-! ### Same -/
theorem delta_iff {x y : DeltaD} : x = y ↔ (x.time = y.time ∧ (x.row = y.row ∧ x.n = y.n)) := by cases x; cases y; simp
instance : DecidableEq DeltaD := fun _ _ => decidable_of_iff _ delta_iff.symm
def sameD (x y : DeltaD) : Bool := decide (cmpD x y = 0) && decide (x.n = y.n)
theorem sameD_eq {x y : DeltaD} : sameD x y = true ↔ x = y := by
  unfold sameD
  rw [Bool.and_eq_true, decide_eq_true_eq, decide_eq_true_eq, cmpD_key]
  exact ⟨fun h => delta_ext ((cmpK_cmp.eq _ _).1 h.1) h.2, fun h => by subst h; exact ⟨cmpK_cmp.refl _, rfl⟩⟩

theorem Same1_in {Φ : PW} [Stable Φ] (x y : DeltaD) (p q : Option Addr) (cap cap2 : Nat) (hΦ : ∀ M w, Φ M w → Sl M w p x.row) (hΨ : ∀ M w, Φ M w → Sl M w q y.row) (hlen : x.row.length ≤ 9223372036854775807) :
    GivesIn Φ Tryz.prog F.delta_Same_1 #[x.v p cap, y.v q cap2] (.bool (sameD x y)) := by
  refine gives_in (Bdelta_Same_1_run x.time p x.row.length cap x.n y.time q y.row.length cap2 y.n) fun W R => ?_
  refine fun _ _ w G cx => (compareD_in x y p q cap cap2 hΦ hΨ hlen).use cx fun w cx => ⟨_, rfl, R, Φ, inferInstance, cx, Br.intro (fun h => fun w G cx => ⟨?_, cx.left⟩) (fun h => fun w G cx => ⟨?_, cx.left⟩)⟩
  · unfold sameD; rw [h, Bool.true_and]
  · unfold sameD; rw [h, Bool.false_and]

theorem EqualFunc_pin {Φ : PW} [Stable Φ] (p : Option Addr) (cap : Nat) (a : List DeltaD) (q : Option Addr) (cap2 : Nat) (b : List DeltaD) (g1 o1 : Nat) (cs1 : List (List Value)) (g2 o2 : Nat) (cs2 : List (List Value)) (hp : 0 < a.length → p = some ⟨g1, o1, none⟩) (hq : 0 < b.length → q = some ⟨g2, o2, none⟩)
    (hΦ : ∀ M w, Φ M w → Pin g1 o1 cs1 a M w) (hΨ : ∀ M w, Φ M w → Pin g2 o2 cs2 b M w) (hlen : a.length ≤ 9223372036854775807) :
    GivesIn Φ Tryz.prog F.slices_EqualFunc_api_Delta__api_Delta_api_Delta_api_Delta #[.slice p a.length cap, .slice q b.length cap2, .func (.func F.delta_Same_1) #[] #[]] (.bool (decide (a = b))) := by
  refine in_cells hΦ fun hc1 => in_cells hΨ fun hc2 => ?_
  refine gives_in (Bslices_EqualFunc_api_Delta__api_Delta_api_Delta_api_Delta_run p a.length cap q b.length cap2 F.delta_Same_1 #[]) fun W R => ?_
  refine Br.intro (fun h => fun w G cx => ⟨?_, cx.left⟩) (fun h => ?_)
  · rw [decide_eq_false]
    intro e
    have := of_decide_eq_true h
    rw [e] at this
    exact this rfl
  have hl : a.length = b.length := by have := of_decide_eq_false h; omega
  refine exI_mk (fun iI R' Φ' k => ∃ i : Nat, iI = i ∧ i ≤ a.length ∧ R' = R ∧ Φ' = Φ ∧ k = a.length - i ∧ a.take i = b.take i) ⟨⟨R, Φ, _, inferInstance, fun w F c => c, 0, rfl, Nat.zero_le _, rfl, rfl, rfl, rfl⟩, ?_⟩
  rintro iI R1 Φ1 k _ ⟨i, rfl, hi, rfl, rfl, rfl, hs⟩
  refine Br.intro (fun hlt => ?_) (fun hge => fun w F cx => ⟨?_, cx.left⟩)
  · have hlt : i < a.length := by have := of_decide_eq_true hlt; omega
    have hltb : i < b.length := by omega
    obtain ⟨r1, rc1, he1, f1, f2, _, _⟩ := hc1 i hlt
    obtain ⟨r2, rc2, he2, f3, f4, _, _⟩ := hc2 i hltb
    have hcall := Same1_in (Φ := Φ1) a[i] b[i] r1 r2 rc1 rc2 (fun M w h => pin_row (hΦ M w h) hlt he1) (fun M w h => pin_row (hΨ M w h) hltb he2) (len_max f1 f2)
    refine ⟨by omega, ptrK_intro g1 o1 (hp (by omega)) fun w G cx => ⟨a[i].time, r1, a[i].row.length, rc1, a[i].n, by rw [Int.toNat_natCast]; exact pin_rowAt (hΦ _ _ cx.phi) hlt he1, fun _ => ⟨by omega, ptrK_intro g2 o2 (hq (by omega)) fun w G cx => ⟨b[i].time, r2, b[i].row.length, rc2, b[i].n, by rw [Int.toNat_natCast]; exact pin_rowAt (hΨ _ _ cx.phi) hltb he2, fun _ w G cx => ⟨by kernel_rfl, hcall.use cx fun w cx => ⟨_, rfl, R1, Φ1, inferInstance, cx, Br.intro (fun h => fun w G cx => ⟨?_, cx.left⟩) (fun h => ⟨by unfold I64; omega, R1, Φ1, a.length - (i + 1), inferInstance, fun w F c => c, ⟨i + 1, rfl, hlt, rfl, rfl, rfl, ?_⟩, by omega⟩)⟩⟩⟩⟩⟩⟩
    · rw [decide_eq_false]
      intro e
      subst e
      have : sameD a[i] a[i] = true := sameD_eq.2 rfl
      rw [this] at h; cases h
    · have he : a[i] = b[i] := sameD_eq.1 (by simpa using h)
      rw [List.take_succ_eq_append_getElem hlt, List.take_succ_eq_append_getElem hltb, hs, he]
  · have hge : i = a.length := by have := of_decide_eq_false hge; omega
    rw [decide_eq_true]
    rw [hge, List.take_length, hl, List.take_length] at hs
    exact hs

theorem Same_in {Φ : PW} [Stable Φ] (p : Option Addr) (cap : Nat) (a : List DeltaD) (q : Option Addr) (cap2 : Nat) (b : List DeltaD) (hΦ : ∀ M w, Φ M w → Sl M w p a) (hΨ : ∀ M w, Φ M w → Sl M w q b)
    (ha : a.length ≤ 400000) (hb : b.length ≤ 400000) (hra : ∀ x ∈ a, x.row.length ≤ 1000000) (hrb : ∀ x ∈ b, x.row.length ≤ 1000000) : GivesIn Φ Tryz.prog F.delta_Same #[.slice p a.length cap, .slice q b.length cap2] (.bool (decide (consP a = consP b))) := by
  refine gives_in (Bdelta_Same_run p a.length cap q b.length cap2) fun W R => ?_
  refine fun w G cx => (Consolidate_sl p cap a hΦ (by omega) hra).use cx fun p1 c1 w h1 h2 cx => ⟨p1, _, c1, rfl, R, _, inferInstance, cx, fun w G cx => ?_⟩
  refine (Consolidate_sl (Φ := fun M w => Φ M w ∧ Sl M w p1 (consP a)) q cap2 b (fun M w h => hΨ M w h.1) (by omega) hrb).use cx fun p2 c2 w h3 h4 cx => ⟨p2, _, c2, rfl, R, fun M w => (Φ M w ∧ Sl M w p1 (consP a)) ∧ Sl M w p2 (consP b), inferInstance, cx, fun w G cx => ?_⟩
  have heq : GivesIn (fun M w => (Φ M w ∧ Sl M w p1 (consP a)) ∧ Sl M w p2 (consP b)) Tryz.prog F.slices_EqualFunc_api_Delta__api_Delta_api_Delta_api_Delta #[.slice p1 (consP a).length c1, .slice p2 (consP b).length c2, .func (.func F.delta_Same_1) #[] #[]] (.bool (decide (consP a = consP b))) :=
    .pinned (fun M w h => h.1.2) fun g1 o1 cs1 hp => .pinned (fun M w h => h.1.2) fun g2 o2 cs2 hq => EqualFunc_pin (Φ := fun M w => (((Φ M w ∧ Sl M w p1 (consP a)) ∧ Sl M w p2 (consP b)) ∧ Pin g1 o1 cs1 (consP a) M w) ∧ Pin g2 o2 cs2 (consP b) M w) p1 c1 (consP a) p2 c2 (consP b) g1 o1 cs1 g2 o2 cs2 hp hq (fun M w h => h.1.2) (fun M w h => h.2) (len_max h1 h2)
  exact heq.use cx fun w cx => ⟨_, rfl, R, Φ, inferInstance, cx.weak fun M w h => h.1.1, fun w G cx => ⟨rfl, cx.left⟩⟩

end Go.Proofs.YtnapfhbibikbiaaGreatDoor
end

/-
  The walks of the reference's comparisons; Equal.
-/
section
set_option linter.unusedVariables false
set_option linter.unusedSimpArgs false
namespace Go.Proofs.YtnapfhbibikbiaaGreatDoor
open Go.Vc

theorem bytesLess_cmp : ∀ a b : List UInt8, Op.bytesLess a b = decide (Lib.compareBytes a b < 0)
  | [], [] => by simp [Op.bytesLess, Lib.compareBytes]
  | [], _ :: _ => by simp [Op.bytesLess, Lib.compareBytes]
  | _ :: _, [] => by simp [Op.bytesLess, Lib.compareBytes]
  | a :: ar, b :: br => by
    unfold Op.bytesLess Lib.compareBytes
    rw [bytesLess_cmp ar br]
    by_cases h1 : a < b
    · simp [h1]
    · by_cases h2 : b < a
      · rw [if_neg h1, if_pos h2]
        have : a ≠ b := fun e => by subst e; exact h1 h2
        simp [h1, this]
      · have : a = b := by
          have h1' : ¬ a.toNat < b.toNat := h1
          have h2' : ¬ b.toNat < a.toNat := h2
          exact UInt8.toNat_inj.1 (by omega)
        rw [if_neg h1, if_neg h2]
        simp [this]

theorem compareBytes_zero (a b : List UInt8) : Lib.compareBytes a b = 0 ↔ a = b := bytes_cmp.eq a b
theorem compareBytes_bd (a b : List UInt8) : -1 ≤ Lib.compareBytes a b ∧ Lib.compareBytes a b ≤ 1 := bytes_cmp.bd a b
theorem cmpT_less (a b : ByteArray) : Op.bytesLess a.toList b.toList = decide (cmpT a b < 0) := by rw [bytesLess_cmp, Lib.toList_data, Lib.toList_data]; rfl
theorem cmpT_gtr (a b : ByteArray) : (!(Op.bytesLess a.toList b.toList || a.toList == b.toList)) = decide (0 < cmpT a b) := by
  rw [cmpT_less]
  have h2 : (a.toList == b.toList) = decide (cmpT a b = 0) := by
    rw [Bool.eq_iff_iff, beq_iff_eq, decide_eq_true_eq]
    unfold cmpT
    rw [compareBytes_zero, Lib.toList_data, Lib.toList_data]
  rw [h2]
  by_cases h : cmpT a b < 0
  · simp [h]; omega
  · by_cases h' : cmpT a b = 0
    · simp [h']
    · rw [decide_eq_false h, decide_eq_false h', decide_eq_true (show 0 < cmpT a b by omega)]; rfl

theorem orI_cons (x : Int) (r : List Int) : orI (x :: r) = if x ≠ 0 then x else orI r := rfl

theorem rcmpV_g (x y : ValD) : Gives Tryz.prog F.errataref03_Compare #[x.v, y.v] (.int .i64 (cmpV x y)) := by
  refine gives_of (Berrataref03_Compare_run x.kind x.num x.text y.kind y.num y.text) fun W R Φ _ => ?_
  have h3 := compareBytes_bd x.text.data.toList y.text.data.toList
  unfold cmpV cmpL
  rw [orI_cons, orI_cons, orI_cons]
  refine fun _ _ => Br.intro (fun h => fun w G c => ⟨?_, c.left⟩) (fun h => Br.intro (fun h2 => fun w G c => ⟨?_, c.left⟩) (fun h2 => Br.intro (fun h3 => fun w G c => ⟨?_, c.left⟩) (fun h3 => Br.intro (fun h4 => fun w G c => ⟨?_, c.left⟩) (fun h4 => Br.intro (fun h5 => fun w G c => ⟨?_, c.left⟩) (fun h5 => ⟨_, fun w => by rw [binOp_string_gtr]; rfl, Br.intro (fun h6 => fun w G c => ⟨?_, c.left⟩) (fun h6 => fun w G c => ⟨?_, c.left⟩)⟩)))))
  · have h := of_decide_eq_true h
    have : cmpI x.kind y.kind = -1 := by unfold cmpI; rw [if_pos h]
    rw [this]; rfl
  all_goals have h := of_decide_eq_false h
  · have h2 := of_decide_eq_true h2
    have : cmpI x.kind y.kind = 1 := by unfold cmpI; rw [if_neg h, if_pos h2]
    rw [this]; rfl
  all_goals have h2 := of_decide_eq_false h2
  all_goals have e1 : cmpI x.kind y.kind = 0 := by unfold cmpI; rw [if_neg h, if_neg h2]
  all_goals rw [e1]
  · have h3 := of_decide_eq_true h3
    have : cmpI x.num y.num = -1 := by unfold cmpI; rw [if_pos h3]
    rw [this]; rfl
  all_goals have h3 := of_decide_eq_false h3
  · have h4 := of_decide_eq_true h4
    have : cmpI x.num y.num = 1 := by unfold cmpI; rw [if_neg h3, if_pos h4]
    rw [this]; rfl
  all_goals have h4 := of_decide_eq_false h4
  all_goals have e2 : cmpI x.num y.num = 0 := by unfold cmpI; rw [if_neg h3, if_neg h4]
  all_goals rw [e2]
  · have h5 : Op.bytesLess x.text.toList y.text.toList = true := h5
    rw [cmpT_less] at h5
    have h5 := of_decide_eq_true h5
    have : cmpT x.text y.text = -1 := by have : -1 ≤ cmpT x.text y.text := (compareBytes_bd _ _).1; omega
    rw [this]; rfl
  all_goals have h5 : Op.bytesLess x.text.toList y.text.toList = false := h5
  all_goals rw [cmpT_less] at h5
  all_goals have h5 := of_decide_eq_false h5
  · rw [cmpT_gtr] at h6
    have h6 := of_decide_eq_true h6
    have : cmpT x.text y.text = 1 := by have : cmpT x.text y.text ≤ 1 := (compareBytes_bd _ _).2; omega
    rw [this]; rfl
  · rw [cmpT_gtr] at h6
    have h6 := of_decide_eq_false h6
    have : cmpT x.text y.text = 0 := by omega
    rw [this]; rfl

theorem cmpR_nil {l r : List ValD} {i : Nat} (h : l.length ≤ i) (hr : r.length ≤ i) : cmpR (l.drop i) (r.drop i) = 0 := by
  rw [List.drop_of_length_le h, List.drop_of_length_le hr]; rfl
theorem cmpR_right {l r : List ValD} {i : Nat} (hi : l.length ≤ i) (hr : i < r.length) : cmpR (l.drop i) (r.drop i) = -1 := by
  rw [List.drop_eq_getElem_cons hr, List.drop_of_length_le hi]; rfl

theorem rCompareRows_in {Φ : PW} [Stable Φ] (p q : Option Addr) (cap cap2 : Nat) (l r : List ValD) (hΦ : ∀ M w, Φ M w → Sl M w p l) (hΨ : ∀ M w, Φ M w → Sl M w q r) (hlen : l.length ≤ 9223372036854775807) :
    GivesIn Φ Tryz.prog F.errataref03_CompareRows #[.slice p l.length cap, .slice q r.length cap2] (.int .i64 (cmpR l r)) := by
  refine .there (fun M w h => (hΦ M w h).there) fun hth => .there (fun M w h => (hΨ M w h).there) fun hth2 => ?_
  refine gives_in (Berrataref03_CompareRows_run p l.length cap q r.length cap2) fun W R => ?_
  refine exI_mk (fun n R' Φ' k => ∃ i : Nat, n = i ∧ i ≤ l.length ∧ i ≤ r.length ∧ R' = R ∧ Φ' = Φ ∧ k = l.length - i ∧ cmpR l r = cmpR (l.drop i) (r.drop i)) ⟨⟨R, Φ, _, inferInstance, fun w F c => c, 0, rfl, Nat.zero_le _, Nat.zero_le _, rfl, rfl, rfl, rfl⟩, ?_⟩
  rintro n R1 Φ1 k _ ⟨i, rfl, hi, hr, rfl, rfl, rfl, hcm⟩
  refine fun w G cx => Br.intro (fun hlt => ?_) (fun hge => ?_)
  · rw [Bool.and_eq_true] at hlt
    have hl : i < l.length := by have := of_decide_eq_true hlt.1; omega
    have hr2 : i < r.length := by have := of_decide_eq_true hlt.2; omega
    obtain ⟨b, o, rfl⟩ := hth (by omega)
    obtain ⟨b2, o2, rfl⟩ := hth2 (by omega)
    rw [cmpR_both hl hr2] at hcm
    refine ⟨R1, Φ1, inferInstance, fun _ _ c => c, by omega, ptrK_intro b o rfl ⟨by omega, ptrK_intro b2 o2 rfl ⟨l[i].kind, l[i].num, l[i].text, fun w G cx => ⟨_, _, _, sl_val (hΦ _ _ cx.phi) hl, rfl⟩, r[i].kind, r[i].num, r[i].text, fun w G cx => ⟨_, _, _, sl_val (hΨ _ _ cx.phi) hr2, rfl⟩, fun w G cx => (rcmpV_g l[i] r[i]).use cx fun w cx => ⟨_, rfl, R1, Φ1, inferInstance, cx,
      Br.intro (fun hn => fun w F cx => ⟨?_, cx.left⟩) (fun hn => ⟨by unfold I64; omega, R1, Φ1, l.length - (i + 1), inferInstance, fun w F c => c, ⟨i + 1, rfl, hl, hr2, rfl, rfl, rfl, ?_⟩, by omega⟩)⟩⟩⟩⟩
    · have hn : cmpV l[i] r[i] ≠ 0 := by simpa using hn
      rw [hcm, if_pos hn]
    · have hn : ¬ cmpV l[i] r[i] ≠ 0 := by simpa using hn
      rw [hcm, if_neg hn]
  · have hge : l.length ≤ i ∨ r.length ≤ i := by
      rw [Bool.and_eq_false_iff] at hge
      rcases hge with h | h
      · left; have := of_decide_eq_false h; omega
      · right; have := of_decide_eq_false h; omega
    refine Br.intro (fun h => fun w G cx => ⟨?_, cx.left⟩) (fun h => Br.intro (fun h2 => fun w G cx => ⟨?_, cx.left⟩) (fun h2 => fun w G cx => ⟨?_, cx.left⟩))
    · have h := of_decide_eq_true h
      rw [hcm, cmpR_right (by omega) (by omega)]
    · have h2 := of_decide_eq_true h2
      rw [hcm, cmpR_left (by omega) (by omega)]
    · have h := of_decide_eq_false h
      have h2 := of_decide_eq_false h2
      rw [hcm, cmpR_nil (by omega) (by omega)]

theorem rCompareD_in {Φ : PW} [Stable Φ] (x y : DeltaD) (p q : Option Addr) (cap cap2 : Nat) (hΦ : ∀ M w, Φ M w → Sl M w p x.row) (hΨ : ∀ M w, Φ M w → Sl M w q y.row) (hlen : x.row.length ≤ 9223372036854775807) :
    GivesIn Φ Tryz.prog F.errataref28_Compare #[x.v p cap, y.v q cap2] (.int .i64 (cmpD x y)) := by
  refine gives_in (Berrataref28_Compare_run x.time p x.row.length cap x.n y.time q y.row.length cap2 y.n) fun W R => ?_
  unfold cmpD cmpDL
  rw [orI_cons, orI_cons]
  refine fun _ _ => Br.intro (fun h => fun w G c => ⟨?_, c.left⟩) (fun h => Br.intro (fun h2 => fun w G c => ⟨?_, c.left⟩) (fun h2 => ?_))
  · have h := of_decide_eq_true h
    have : cmpI x.time y.time = -1 := by unfold cmpI; rw [if_pos h]
    rw [this]; rfl
  all_goals have h := of_decide_eq_false h
  · have h2 := of_decide_eq_true h2
    have : cmpI x.time y.time = 1 := by unfold cmpI; rw [if_neg h, if_pos h2]
    rw [this]; rfl
  have h2 := of_decide_eq_false h2
  have e1 : cmpI x.time y.time = 0 := by unfold cmpI; rw [if_neg h, if_neg h2]
  rw [e1]
  refine fun w G cx => (rCompareRows_in p q cap cap2 x.row y.row hΦ hΨ hlen).use cx fun w cx => ⟨_, rfl, R, Φ, inferInstance, cx, fun w G cx => ⟨?_, cx.left⟩⟩
  by_cases h0 : cmpR x.row y.row = 0
  · rw [h0]; rfl
  · rw [if_neg (by omega), if_pos h0]

/-! ### Equal -/
theorem Equal_pin {Φ : PW} [Stable Φ] (p : Option Addr) (cap : Nat) (a : List DeltaD) (q : Option Addr) (cap2 : Nat) (b : List DeltaD) (g1 o1 : Nat) (cs1 : List (List Value)) (g2 o2 : Nat) (cs2 : List (List Value)) (hp : 0 < a.length → p = some ⟨g1, o1, none⟩) (hq : 0 < b.length → q = some ⟨g2, o2, none⟩)
    (hΦ : ∀ M w, Φ M w → Pin g1 o1 cs1 a M w) (hΨ : ∀ M w, Φ M w → Pin g2 o2 cs2 b M w) (hlen : a.length ≤ 9223372036854775807) :
    GivesIn Φ Tryz.prog F.errataref28_Equal #[.slice p a.length cap, .slice q b.length cap2] (.bool (decide (a = b))) := by
  refine in_cells hΦ fun hc1 => in_cells hΨ fun hc2 => ?_
  refine gives_in (Berrataref28_Equal_run p a.length cap q b.length cap2) fun W R => ?_
  refine Br.intro (fun h => fun w G cx => ⟨?_, cx.left⟩) (fun h => ?_)
  · rw [decide_eq_false]
    intro e
    have := of_decide_eq_true h
    rw [e] at this
    exact this rfl
  have hl : a.length = b.length := by have := of_decide_eq_false h; omega
  refine exI_mk (fun iI R' Φ' k => ∃ i : Nat, iI = i ∧ i ≤ a.length ∧ R' = R ∧ Φ' = Φ ∧ k = a.length - i ∧ a.take i = b.take i) ⟨⟨R, Φ, _, inferInstance, fun w F c => c, 0, rfl, Nat.zero_le _, rfl, rfl, rfl, rfl⟩, ?_⟩
  rintro iI R1 Φ1 k _ ⟨i, rfl, hi, rfl, rfl, rfl, hs⟩
  refine Br.intro (fun hlt => ?_) (fun hge => fun w F cx => ⟨?_, cx.left⟩)
  · have hlt : i < a.length := by have := of_decide_eq_true hlt; omega
    have hltb : i < b.length := by omega
    obtain ⟨r1, rc1, he1, f1, f2, _, _⟩ := hc1 i hlt
    obtain ⟨r2, rc2, he2, f3, f4, _, _⟩ := hc2 i hltb
    have hcall := rCompareD_in (Φ := Φ1) a[i] b[i] r1 r2 rc1 rc2 (fun M w h => pin_row (hΦ M w h) hlt he1) (fun M w h => pin_row (hΨ M w h) hltb he2) (len_max f1 f2)
    have hn1 : ∀ {w : World} {G : List Own}, Ctx W w (R1 ++ G) Φ1 → w.cell? ⟨g1, o1 + (i : Int).toNat * 3 + 2, none⟩ = some (.int .i64 a[i].n) := fun cx => by
      have := pin_rowAt (hΦ _ _ cx.phi) hlt he1 2 (by simp)
      rw [Int.toNat_natCast]; simpa using this
    have hn2 : ∀ {w : World} {G : List Own}, Ctx W w (R1 ++ G) Φ1 → w.cell? ⟨g2, o2 + (i : Int).toNat * 3 + 2, none⟩ = some (.int .i64 b[i].n) := fun cx => by
      have := pin_rowAt (hΨ _ _ cx.phi) hltb he2 2 (by simp)
      rw [Int.toNat_natCast]; simpa using this
    refine ⟨R1, Φ1, inferInstance, fun _ _ c => c, by omega, ptrK_intro g1 o1 (hp (by omega)) ⟨by omega, ptrK_intro g2 o2 (hq (by omega)) ⟨a[i].time, r1, a[i].row.length, rc1, a[i].n, fun w G cx => ⟨_, _, _, _, _, by rw [Int.toNat_natCast]; exact pin_rowAt (hΦ _ _ cx.phi) hlt he1, rfl⟩, b[i].time, r2, b[i].row.length, rc2, b[i].n, fun w G cx => ⟨_, _, _, _, _, by rw [Int.toNat_natCast]; exact pin_rowAt (hΨ _ _ cx.phi) hltb he2, rfl⟩,
      fun w G cx => hcall.use cx fun w cx => ⟨_, rfl, R1, Φ1, inferInstance, cx, Br.intro (fun hn => fun w F cx => ⟨?_, cx.left⟩) (fun hn => ⟨by omega, ptrK_intro g1 o1 (hp (by omega)) ⟨by omega, ptrK_intro g2 o2 (hq (by omega)) fun w G cx => ⟨_, hn1 cx, fun w G cx => ⟨_, hn2 cx, Br.intro (fun h3 => fun w G cx => ⟨?_, cx.left⟩) (fun h3 => ⟨by unfold I64; omega, R1, Φ1, a.length - (i + 1), inferInstance, fun w F c => c, ⟨i + 1, rfl, hlt, rfl, rfl, rfl, ?_⟩, by omega⟩)⟩⟩⟩⟩)⟩⟩⟩⟩
    · rw [decide_eq_false]
      intro e
      subst e
      have := of_decide_eq_true hn
      rw [cmpD_key] at this
      exact this (cmpK_cmp.refl _)
    · rw [decide_eq_false]
      intro e
      subst e
      have := of_decide_eq_true h3
      exact this rfl
    · have h1 := of_decide_eq_false hn
      have h2 := of_decide_eq_false h3
      have h1 : cmpD a[i] b[i] = 0 := Decidable.not_not.1 h1
      have h2 : a[i].n = b[i].n := Decidable.not_not.1 h2
      rw [cmpD_key] at h1
      have he : a[i] = b[i] := delta_ext ((cmpK_cmp.eq _ _).1 h1) h2
      rw [List.take_succ_eq_append_getElem hlt, List.take_succ_eq_append_getElem hltb, hs, he]
  · have hge : i = a.length := by have := of_decide_eq_false hge; omega
    rw [decide_eq_true]
    rw [hge, List.take_length, hl, List.take_length] at hs
    exact hs

theorem Equal_in {Φ : PW} [Stable Φ] (p : Option Addr) (cap : Nat) (a : List DeltaD) (q : Option Addr) (cap2 : Nat) (b : List DeltaD) (hΦ : ∀ M w, Φ M w → Sl M w p a) (hΨ : ∀ M w, Φ M w → Sl M w q b) (hlen : a.length ≤ 9223372036854775807) :
    GivesIn Φ Tryz.prog F.errataref28_Equal #[.slice p a.length cap, .slice q b.length cap2] (.bool (decide (a = b))) :=
  .pinned hΦ fun g1 o1 cs1 hp => .pinned (fun M w h => hΨ M w h.1) fun g2 o2 cs2 hq => Equal_pin (Φ := fun M w => (Φ M w ∧ Pin g1 o1 cs1 a M w) ∧ Pin g2 o2 cs2 b M w) p cap a q cap2 b g1 o1 cs1 g2 o2 cs2 hp hq (fun M w h => h.1.2) (fun M w h => h.2) hlen

end Go.Proofs.YtnapfhbibikbiaaGreatDoor
end

/-
  Concat, Add, Consolidated, walked.
-/
section
set_option linter.unusedVariables false
set_option linter.unusedSimpArgs false
namespace Go.Vc
section
variable {W w : World} {S : List Own} {Φ : PW}

/-- append of new zeroes to nothing, taken as room -/
theorem Ctx.grow0 [Stable Φ] {P : Program} (c : Ctx W w S Φ) {ts tn ty t : TypeId} {kb : Array Bool} {size bytes : Nat} (hb : appB P ts t size bytes = true) (htn : P.underlying tn = some (.int .i64)) (m : Nat) (h0 : 0 < m) (hm : m ≤ 1000000) (hpos : 0 < size) (hbytes : bytes ≤ 1000) :
    ∃ g cap' w', Sem.run P (builtin Builtin.append #[ts, tn] ty kb #[.slice none 0 0, .int .i64 m]) w = .ok (.value (.slice (some ⟨g, 0, none⟩) m cap')) w' ∧ m ≤ cap' ∧ Ctx W w' (.buf (some ⟨g, 0, none⟩) 0 cap' [] t size :: S) Φ := by
  obtain ⟨i, z, e1, e2, e3, e4, e5, e6⟩ := appB_out hb
  subst e4
  have hmb : m * i.bytes ≤ 1000000 * 1000 := Nat.mul_le_mul hm (by omega)
  have hr := Go.Lib.run_append_nil_zeros (P := P) w ts tn ty t i z .i64 .i64 e1 htn e2 e3 m h0 hpos (by omega) (by omega)
  have hge := grownCap_ge w m 0 t
  have hcm : grownCap w m 0 t ≤ maxLen := grownCap_le_maxLen w m 0 t (by simp only [maxLen]; omega)
  have h := (c.buf0 t i.size).upd (k := 0) (o' := .buf (some ⟨w.heap.size, 0, none⟩) 0 (grownCap w m 0 t) [] t i.size) rfl (((Chg.refl _ _).drewN 1).alloc (.cells (Builtin.zeroCells z.cells m ++ Builtin.zeroCells z.cells (grownCap w m 0 t - m)) t)) (by simp [Own.dom]) (by simp [Own.dom])
    ⟨by simp, .inr ⟨w.heap.size, _, _, rfl, Nat.zero_le _, hp_alloc_new w.drew _, Nat.zero_le _, hcm, by
      simp only [Array.size_append, size_zeroCells, e5, ← Nat.add_mul]
      congr 1
      omega, by simp⟩⟩
  exact ⟨_, _, _, run_app hr, hge, h⟩

/-- append a slice of plain data, perhaps empty -/
theorem Ctx.appAny [Stable Φ] {P : Program} {α : Type} [Gv α] {q : Option Addr} {l : List α} {c2 : Nat} {p : Option Addr} {n cap : Nat} {cs : List Value} {t : TypeId} {bytes : Nat} (c : Ctx W w (.buf p n cap cs t (Gv.ty α).size :: S) Φ)
    {ts ty : TypeId} {kb : Array Bool} (hb : appB P ts t (Gv.ty α).size bytes = true) (h1 : ∀ M w cs (x : α), Gv.rep M w cs x → (cs.all fun u => oneC u) = true) (hsl : ∀ M w, Φ M w → Sl M w q l) (hlen : n + l.length < 100000000) (hbytes : bytes ≤ 1000) :
    ∃ p' cap' w' news, Sem.run P (builtin Builtin.append #[ts, ts] ty kb #[.slice p n cap, .slice q l.length c2]) w = .ok (.value (.slice p' (n + l.length) cap')) w' ∧
      Ctx W w' (.buf p' (n + l.length) cap' (cs ++ news) t (Gv.ty α).size :: S) (fun M w => Φ M w ∧ Elems M w news l) := by
  rcases Nat.eq_zero_or_pos l.length with h0 | h0
  · obtain ⟨i, z, e1, e2, e3, e4, e5, e6⟩ := appB_out hb
    have hl : l = [] := List.eq_nil_of_length_eq_zero h0
    subst hl
    refine ⟨p, cap, w, [], run_app (c.append0 0 rfl e1 e2 q c2), ?_⟩
    rw [List.append_nil]
    exact c.add Elems.nil
  · obtain ⟨p', cap', w', news, h2, _, c3⟩ := c.appSl (ty := ty) (kb := kb) (c2 := c2) hb h1 hsl h0 hlen hbytes
    exact ⟨p', cap', w', news, h2, c3⟩

end
end Go.Vc

namespace Go.Proofs.YtnapfhbibikbiaaGreatDoor
open Go.Vc


theorem pin_ll {M : List Nat} {w : World} {g o : Nat} {cs : List (List Value)} {ls : List (List DeltaD)} (h : Pin g o cs ls M w) {j : Nat} (hj : j < ls.length) : ∃ p c, cs.getD j [] = [.slice p ls[j].length c] ∧ ls[j].length ≤ c ∧ c ≤ maxLen := by
  obtain ⟨_, h1, h2⟩ := h j hj
  obtain ⟨p, c, e, g1, g2, _⟩ := rep_list.1 h2
  exact ⟨p, c, e, g1, g2⟩
theorem pin_llSl {M : List Nat} {w : World} {g o : Nat} {cs : List (List Value)} {ls : List (List DeltaD)} (h : Pin g o cs ls M w) {j : Nat} (hj : j < ls.length) {p : Option Addr} {c : Nat} (e : cs.getD j [] = [.slice p ls[j].length c]) : Sl M w p ls[j] := by
  obtain ⟨_, h1, h2⟩ := h j hj
  obtain ⟨p', c', e', g1, g2, hs⟩ := rep_list.1 h2
  rw [e] at e'
  simp only [List.cons.injEq, Value.slice.injEq] at e'
  rw [e'.1.1]
  exact hs
theorem pin_llAt {M : List Nat} {w : World} {g o : Nat} {cs : List (List Value)} {ls : List (List DeltaD)} (h : Pin g o cs ls M w) {j : Nat} (hj : j < ls.length) {p : Option Addr} {c : Nat} (e : cs.getD j [] = [.slice p ls[j].length c]) : w.cell? ⟨g, o + j, none⟩ = some (.slice p ls[j].length c) := by
  obtain ⟨_, h1, h2⟩ := h j hj
  rw [e] at h1
  have := h1 0 (by simp)
  rw [show (Gv.ty (List DeltaD)).size = 1 from rfl, Nat.mul_one] at this
  simpa using this

theorem flat_take (ls : List (List DeltaD)) {i : Nat} (h : i < ls.length) : (ls.take (i + 1)).flatten = (ls.take i).flatten ++ ls[i] := by
  rw [List.take_succ_eq_append_getElem h, List.flatten_append]
  simp
theorem flat_le (ls : List (List DeltaD)) (i : Nat) : (ls.take i).flatten.length ≤ ls.flatten.length := by
  have h : ls.flatten = (ls.take i).flatten ++ (ls.drop i).flatten := by rw [← List.flatten_append, List.take_append_drop]
  rw [h, List.length_append]
  omega

theorem Grow_use {W w : World} {S : List Own} {Φ : PW} [Stable Φ] (n : Nat) (hn : n ≤ 1000000) (cx : Ctx W w S Φ) {K : Ending → World → Prop}
    (hK : ∀ p cap w', Ctx W w' (.buf p 0 cap [] 36 3 :: S) Φ → K (.returned (.slice p 0 cap)) w') : Calls Tryz.prog F.slices_Grow_api_Delta_api_Delta #[.slice none 0 0, .int .i64 n] w K := by
  refine (Bslices_Grow_api_Delta_api_Delta_run none 0 0 n (J := fun u w' => K (.returned u) w') cx ?_).mono fun e w' ⟨v, he, hj⟩ => by rw [he]; exact hj
  refine Br.intro (fun h => by have := of_decide_eq_true h; omega) (fun _ => ⟨by unfold I64; omega, by unfold I64; omega, Br.intro (fun h => ⟨by omega, fun w G cx => ?_⟩) (fun h => fun w G cx => hK _ _ _ (cx.left.buf0 36 3))⟩)
  have h := of_decide_eq_true h
  obtain ⟨g, cap', w', hrun, hge, cx'⟩ := Ctx.grow0 (P := Tryz.prog) (ts := 22) (tn := 3) (ty := 22) (t := 36) (kb := #[false, false]) (size := 3) (bytes := 40) cx (by kernel_rfl) (by kernel_rfl) n (by omega) hn (by omega) (by omega)
  have e : (n : Int) - (((0 : Nat) : Int) - ((0 : Nat) : Int)) = n := by omega
  rw [e]
  refine ⟨_, _, _, _, hrun, .buf (some ⟨g, 0, none⟩) 0 cap' [] 36 3 :: S, Φ, inferInstance, cx', by omega, fun w G cx => ?_⟩
  have hp : subPtr (some ⟨g, 0, none⟩) 3 0 cap' = some ⟨g, 0, none⟩ := by
    unfold subPtr
    split <;> rfl
  show K (.returned (.slice (subPtr (some ⟨g, 0, none⟩) 3 0 cap') 0 cap')) w
  rw [hp]
  exact hK _ _ _ cx.left

set_option maxHeartbeats 1000000 in
theorem Concat_pin {Φ : PW} [Stable Φ] (q : Option Addr) (cap : Nat) (ls : List (List DeltaD)) (g o : Nat) (cs : List (List Value)) (hq : 0 < ls.length → q = some ⟨g, o, none⟩) (hΦ : ∀ M w, Φ M w → Pin g o cs ls M w) (hn : ls.length ≤ 1000000) (hlen : ls.flatten.length ≤ 1000000) :
    GivesNew Φ Tryz.prog F.slices_Concat_api_Delta_api_Delta #[.slice q ls.length cap] ls.flatten 36 := by
  refine ⟨fun W0 w0 S0 c0 => ?_⟩
  have hcs : ∀ j, (hj : j < ls.length) → ∃ p c, cs.getD j [] = [.slice p ls[j].length c] ∧ ls[j].length ≤ c ∧ c ≤ maxLen := fun j hj => pin_ll (hΦ _ _ c0.phi) hj
  refine GivesNew.go (gives_new (Bslices_Concat_api_Delta_api_Delta_run q ls.length cap) fun W R => ?_) W0 w0 S0 c0
  clear c0
  refine exI_mk (fun n iI R' Φ' k => ∃ i : Nat, iI = i ∧ i ≤ ls.length ∧ n = ((ls.take i).flatten.length : Int) ∧ R' = R ∧ Φ' = Φ ∧ k = ls.length - i) ⟨⟨R, Φ, _, inferInstance, fun w G cx => cx, 0, rfl, Nat.zero_le _, rfl, rfl, rfl, rfl⟩, ?_⟩
  rintro n iI R1 Φ1 k _ ⟨i, rfl, hi, rfl, rfl, rfl, rfl⟩
  refine Br.intro (fun hlt => ?_) (fun hge => ?_)
  · have hlt := of_decide_eq_true hlt
    have hlt : i < ls.length := by omega
    obtain ⟨p, c, he, h1, h2⟩ := hcs i hlt
    have hf := flat_take ls hlt
    have hfl : (ls.take (i + 1)).flatten.length = (ls.take i).flatten.length + ls[i].length := by rw [hf, List.length_append]
    have hle := flat_le ls (i + 1)
    refine ⟨by omega, ptrK_intro g o (hq (by omega)) fun w G cx => ⟨p, ls[i].length, c, by rw [Int.toNat_natCast]; exact pin_llAt (hΦ _ _ cx.phi) hlt he, by unfold I64; omega, Br.intro (fun h => by have := of_decide_eq_true h; omega) (fun _ => ⟨by unfold I64; omega, R1, Φ1, ls.length - (i + 1), inferInstance, fun w G cx => cx, ⟨i + 1, by omega, hlt, by omega, rfl, rfl, rfl⟩, by omega⟩)⟩⟩
  have hge := of_decide_eq_false hge
  have hi : i = ls.length := by omega
  subst hi
  rw [List.take_length]
  clear hge
  refine fun w G cx => Grow_use ls.flatten.length hlen cx fun p0 cap0 w cx => ⟨p0, 0, cap0, rfl, .buf p0 0 cap0 [] 36 3 :: R1, Φ1, inferInstance, cx, ?_⟩
  clear cx
  refine exI_mk (fun sp sn sc iI R' Φ' k => ∃ (i : Nat) (ds : List Value), iI = i ∧ i ≤ ls.length ∧ sn = (ls.take i).flatten.length ∧ R' = .buf sp sn sc ds 36 3 :: R1 ∧ Φ' = (fun M w => Φ1 M w ∧ Elems M w ds (ls.take i).flatten) ∧ k = ls.length - i)
    ⟨⟨.buf p0 0 cap0 [] 36 3 :: R1, fun M w => Φ1 M w ∧ Elems M w [] (ls.take 0).flatten, _, inferInstance, fun w G cx => cx.weak fun M w h => ⟨h, Elems.nil⟩, 0, [], rfl, Nat.zero_le _, rfl, rfl, rfl, rfl⟩, ?_⟩
  rintro sp _ sc iI R2 Φ2 k _ ⟨i, ds, rfl, hi, rfl, rfl, rfl, rfl⟩
  refine Br.intro (fun hlt => ?_) (fun hge => fun w G cx => ?_)
  · have hlt := of_decide_eq_true hlt
    have hlt : i < ls.length := by omega
    obtain ⟨p, c, he, h1, h2⟩ := hcs i hlt
    have hf := flat_take ls hlt
    have hfl : (ls.take (i + 1)).flatten.length = (ls.take i).flatten.length + ls[i].length := by rw [hf, List.length_append]
    have hle := flat_le ls (i + 1)
    refine ⟨by omega, ptrK_intro g o (hq (by omega)) fun w G cx => ⟨p, ls[i].length, c, by rw [Int.toNat_natCast]; exact pin_llAt (hΦ _ _ cx.phi.1) hlt he, fun w G cx => ?_⟩⟩
    have happ := Ctx.appAny (P := Tryz.prog) (ts := 22) (ty := 22) (kb := #[false, false]) (bytes := 40) (c2 := c) (l := ls[i]) (q := p) cx (by kernel_rfl) delta_one (fun M w h => pin_llSl (hΦ M w h.1) hlt he) (by omega) (by omega)
    rw [← hfl] at happ
    obtain ⟨p', cap', w', news, hrun, cx'⟩ := happ
    have hst : Stable (fun M w => Φ1 M w ∧ Elems M w (ds ++ news) (ls.take (i + 1)).flatten) := inferInstance
    exact ⟨p', _, cap', w', hrun, .buf p' (ls.take (i + 1)).flatten.length cap' (ds ++ news) 36 3 :: R1, _, hst, cx'.weak fun M w h => ⟨h.1.1, by rw [hf]; exact h.1.2.append h.2⟩, by unfold I64; omega, _, _, ls.length - (i + 1), hst, fun w G cx => cx, ⟨i + 1, _, by omega, hlt, rfl, rfl, rfl, rfl⟩, by omega⟩
  · have hge := of_decide_eq_false hge
    have hi : i = ls.length := by omega
    subst hi
    rw [List.take_length] at cx ⊢
    exact ⟨sp, sc, ds, rfl, cx.left⟩

def addP (a b : List DeltaD) : List DeltaD := consP (a ++ b)

theorem Add_sl {Φ : PW} [Stable Φ] (p : Option Addr) (cap : Nat) (a : List DeltaD) (q : Option Addr) (cap2 : Nat) (b : List DeltaD) (hΦ : ∀ M w, Φ M w → Sl M w p a) (hΨ : ∀ M w, Φ M w → Sl M w q b) (hc1 : a.length ≤ cap) (hc2 : cap ≤ maxLen) (hc3 : b.length ≤ cap2) (hc4 : cap2 ≤ maxLen)
    (ha : a.length ≤ 400000) (hb : b.length ≤ 400000) (hra : ∀ x ∈ a, x.row.length ≤ 1000000) (hrb : ∀ x ∈ b, x.row.length ≤ 1000000) : GivesSl Φ Tryz.prog F.delta_Add #[.slice p a.length cap, .slice q b.length cap2] (addP a b) id := by
  refine gives_sl (Bdelta_Add_run p a.length cap q b.length cap2) fun W R => ?_
  intro k w G cx
  obtain ⟨cx1, hs⟩ := cx.freezeBlk (α := List DeltaD) (l := [a, b]) (Elems.two (cs := [.slice p a.length cap]) (ds := [.slice q b.length cap2]) (rep_list.2 ⟨p, cap, rfl, hc1, hc2, hΦ _ _ cx.phi⟩) (rep_list.2 ⟨q, cap2, rfl, hc3, hc4, hΨ _ _ cx.phi⟩))
  have hfl : [a, b].flatten = a ++ b := by simp
  have hll : (a ++ b).length ≤ 1000000 := by rw [List.length_append]; omega
  have cx1' : Ctx W w (R ++ G) (fun M w => Φ M w ∧ Sl M w (some ⟨k, 0, none⟩) [a, b]) := cx1.add hs
  obtain ⟨g, o, cs, hq, cx2⟩ := cx1'.pin cx1'.phi.2
  have hcon := Concat_pin (Φ := fun M w => (Φ M w ∧ Sl M w (some ⟨k, 0, none⟩) [a, b]) ∧ Pin g o cs [a, b] M w) (some ⟨k, 0, none⟩) 2 [a, b] g o cs hq (fun M w h => h.2) (by simp) (by rw [hfl]; exact hll)
  rw [hfl] at hcon
  refine hcon.use cx2 fun p1 c1 ds w cx => ?_
  obtain ⟨_, h1, h2⟩ := cx.bufLen 0 rfl
  obtain ⟨cx3, hs3, _⟩ := Ctx.freeze (α := DeltaD) cx.fst cx.phi.2
  refine ⟨p1, _, c1, rfl, R, fun M w => Φ M w ∧ Sl M w p1 (a ++ b), inferInstance, (cx3.add hs3).weak fun M w h => ⟨h.1.1.1, h.2⟩, fun w G cx => ?_⟩
  refine (Consolidate_sl (Φ := fun M w => Φ M w ∧ Sl M w p1 (a ++ b)) p1 c1 (a ++ b) (fun M w h => h.2) hll (fun x hx => ?_)).use cx fun p3 c3 w h1 h2 cx => ⟨p3, _, c3, rfl, R, fun M w => Φ M w ∧ Sl M w p3 (addP a b), inferInstance, cx.weak fun M w h => ⟨h.1.1, h.2⟩, fun w G cx => ⟨p3, c3, rfl, h1, h2, cx.left⟩⟩
  rcases List.mem_append.1 hx with hx | hx
  · exact hra x hx
  · exact hrb x hx

end Go.Proofs.YtnapfhbibikbiaaGreatDoor
end

/-
  Find, IndexFunc, walked.
-/
section
set_option linter.unusedVariables false
set_option linter.unusedSimpArgs false
namespace Go.Proofs.YtnapfhbibikbiaaGreatDoor
open Go.Vc


/-! ### Find, Count -/
theorem sumK_step {l : List DeltaD} {i : Nat} (h : i < l.length) (k : Key) : sumK (l.take (i + 1)) k = sumK (l.take i) k + (if l[i].key = k then l[i].n else 0) := by
  rw [List.take_succ_eq_append_getElem h, sumK_app]
  simp only [sumK, Int.add_zero]

theorem Find_pin {Φ : PW} [Stable Φ] (p : Option Addr) (cap : Nat) (l : List DeltaD) (time : Int) (q : Option Addr) (cap2 : Nat) (row : List ValD) (g o : Nat) (cs : List (List Value)) (hp : 0 < l.length → p = some ⟨g, o, none⟩) (hΦ : ∀ M w, Φ M w → Pin g o cs l M w) (hΨ : ∀ M w, Φ M w → Sl M w q row)
    (hlen : l.length ≤ 9223372036854775807) : GivesIn Φ Tryz.prog F.delta_Find #[.slice p l.length cap, .int .i64 time, .slice q row.length cap2] (.int .i64 (findP l (time, row))) := by
  refine in_cells hΦ fun hcs => ?_
  refine gives_in (Bdelta_Find_run p l.length cap time q row.length cap2) fun W R => ?_
  refine exI_mk (fun n iI R' Φ' k => ∃ i : Nat, iI = i ∧ i ≤ l.length ∧ n = findP (l.take i) (time, row) ∧ R' = R ∧ Φ' = Φ ∧ k = l.length - i) ⟨⟨R, Φ, _, inferInstance, fun w F c => c, 0, rfl, Nat.zero_le _, rfl, rfl, rfl, rfl⟩, ?_⟩
  rintro n iI R1 Φ1 k _ ⟨i, rfl, hi, rfl, rfl, rfl, rfl⟩
  refine Br.intro (fun hlt => ?_) (fun hge => fun w F cx => ⟨?_, cx.left⟩)
  · have hlt : i < l.length := by have := of_decide_eq_true hlt; omega
    obtain ⟨r, rc, he, f1, f2, _, _⟩ := hcs i hlt
    have hcall := compareD_in (Φ := Φ1) l[i] ⟨time, row, 0⟩ r q rc cap2 (fun M w h => pin_row (hΦ M w h) hlt he) (fun M w h => hΨ M w h) (len_max f1 f2)
    refine ⟨by omega, ptrK_intro g o (hp (by omega)) fun w G cx => ⟨l[i].time, r, l[i].row.length, rc, l[i].n, by rw [Int.toNat_natCast]; exact pin_rowAt (hΦ _ _ cx.phi) hlt he, fun _ w G cx => hcall.use cx fun w cx => ⟨_, rfl, R1, Φ1, inferInstance, cx,
      Br.intro (fun h => ⟨by unfold I64; omega, R1, Φ1, l.length - (i + 1), inferInstance, fun w F c => c, ⟨i + 1, rfl, hlt, ?_, rfl, rfl, rfl⟩, by omega⟩) (fun h => ⟨by unfold I64; omega, R1, Φ1, l.length - (i + 1), inferInstance, fun w F c => c, ⟨i + 1, rfl, hlt, ?_, rfl, rfl, rfl⟩, by omega⟩)⟩⟩⟩
    · have h := of_decide_eq_true h
      rw [cmpD_key] at h
      have hk : l[i].key = (time, row) := (cmpK_cmp.eq _ _).1 h
      unfold findP
      rw [sumK_step hlt, if_pos hk]
      exact w64_l _ _
    · have h := of_decide_eq_false h
      rw [cmpD_key] at h
      have hk : ¬ l[i].key = (time, row) := fun e => h ((cmpK_cmp.eq _ _).2 e)
      unfold findP
      rw [sumK_step hlt, if_neg hk, Int.add_zero]
  · have hge : i = l.length := by have := of_decide_eq_false hge; omega
    rw [hge, List.take_length]

theorem Find_in {Φ : PW} [Stable Φ] (p : Option Addr) (cap : Nat) (l : List DeltaD) (time : Int) (q : Option Addr) (cap2 : Nat) (row : List ValD) (hΦ : ∀ M w, Φ M w → Sl M w p l) (hΨ : ∀ M w, Φ M w → Sl M w q row)
    (hlen : l.length ≤ 9223372036854775807) : GivesIn Φ Tryz.prog F.delta_Find #[.slice p l.length cap, .int .i64 time, .slice q row.length cap2] (.int .i64 (findP l (time, row))) :=
  .pinned hΦ fun g o cs hp => Find_pin (Φ := fun M w => Φ M w ∧ Pin g o cs l M w) p cap l time q cap2 row g o cs hp (fun M w h => h.2) (fun M w h => hΨ M w h.1) hlen

def findI {α : Type} (p : α → Bool) : Nat → List α → Int
  | _, [] => -1
  | i, x :: r => if p x = true then (i : Int) else findI p (i + 1) r

theorem findI_drop {α : Type} (p : α → Bool) (l : List α) (i : Nat) (hi : i < l.length) : findI p i (l.drop i) = if p l[i] = true then (i : Int) else findI p (i + 1) (l.drop (i + 1)) := by
  rw [List.drop_eq_getElem_cons hi]; rfl
end Go.Proofs.YtnapfhbibikbiaaGreatDoor
end

/-
  DeleteFunc, Upto, After, walked.
-/
section
set_option linter.unusedVariables false
set_option linter.unusedSimpArgs false
namespace Go.Vc
section
variable {P : Program} {W w w' : World} {S F : List Own} {Φ Ψ : PW}

/-- only the first elements -/
theorem Ctx.bufShrink [Stable Φ] {p : Option Addr} {n cap : Nat} {cs : List Value} {t : TypeId} {size : Nat} (c : Ctx W w (.buf p n cap cs t size :: S) Φ) {i : Nat} (hi : i ≤ n) : Ctx W w (.buf p i cap (cs.take (i * size)) t size :: S) Φ := by
  obtain ⟨hl, hn, hm⟩ := c.bufLen 0 rfl
  have hle : i * size ≤ n * size := Nat.mul_le_mul_right _ hi
  have hown := c.own _ List.mem_cons_self
  refine c.upd (k := 0) (o' := .buf p i cap (cs.take (i * size)) t size) rfl (Chg.refl _ _) (fun b hb => .inl ?_) (by cases p <;> simp [Own.dom]) ⟨by rw [List.length_take]; omega, ?_⟩
  · cases p <;> exact hb
  · rcases hown.2 with ⟨e, rfl⟩ | ⟨g, cap', cur, e, h1, h2, h3, h4, h5, h6⟩
    · cases e
      have : i = 0 := by omega
      subst this
      exact .inl ⟨rfl, rfl⟩
    · cases e
      refine .inr ⟨g, cap, cur, rfl, h1, h2, by omega, h4, h5, ?_⟩
      rw [← h6, List.take_take, Nat.min_eq_left hle]

theorem run_clr {ats : Array TypeId} {ty : TypeId} {cs : Array Bool} {args : Array Value} {v : Value} {w w' : World} (h : (Builtin.clear_ ats ty args).run P w = .ok v w') : Sem.run P (builtin Builtin.clear ats ty cs args) w = .ok (.value v) w' := by
  unfold builtin
  simp only [Sem.run_bind, h, Result.andThen, Sem.run_pure]

/-- clear of a slice of elements of several cells -/
theorem run_clear_cells (w : World) (t e ty : TypeId) (z : Value) (ht : P.underlying t = some (.slice e)) (hv : ∀ w, (zeroValue e).run P w = .ok z w) (h1 : ∀ v ∈ z.cells, v.oneCell' = true) (hp : 0 < z.cells.size) (b o n c : Nat) (hn : 0 < n)
    (hc : ∀ j, j < n * z.cells.size → (w.cell? ⟨b, o + j, none⟩).isSome = true) (hf : ∀ j, j < n * z.cells.size → w.frozen? ⟨b, o + j, none⟩ = false) :
    (Builtin.clear_ #[t] ty #[.slice (some ⟨b, o, none⟩) n c]).run P w = .ok (.tuple #[]) (w.setCells b o (Builtin.zeroCells z.cells n).toList) := by
  have hl : (Builtin.zeroCells z.cells n).toList.length = n * z.cells.size := by simp [Builtin.zeroCells]
  have hst := run_storeCells_cells (P := P) b o (Builtin.zeroCells z.cells n).toList 0 w (by rw [hl]; simpa using hc) (by rw [hl]; simpa using hf) (fun v hv' => by
    simp only [Builtin.zeroCells, Array.toList_map, List.mem_map] at hv'
    obtain ⟨i, _, rfl⟩ := hv'
    have hlt : i % z.cells.size < z.cells.size := Nat.mod_lt _ hp
    rw [getElem!_pos z.cells _ hlt]
    exact h1 _ (Array.getElem_mem hlt))
  simp only [Nat.add_zero] at hst
  obtain ⟨m, rfl⟩ : ∃ m, n = m + 1 := ⟨n - 1, by omega⟩
  simp [Builtin.clear_, run_underlying ht, hv, hst]

theorem setL_low (cs vs : List Value) (n : Nat) : (setL cs n vs).take n = cs.take n := by
  apply List.ext_getElem?
  intro i
  by_cases hi : i < n
  · rw [List.getElem?_take_of_lt hi, List.getElem?_take_of_lt hi, setL_get _ _ _ _ (.inl hi)]
  · rw [List.getElem?_eq_none (by rw [List.length_take]; omega), List.getElem?_eq_none (by rw [List.length_take]; omega)]
end
end Go.Vc

namespace Go.Proofs.YtnapfhbibikbiaaGreatDoor
open Go.Vc


theorem IndexE_use {W w : World} {S : List Own} {Φ : PW} [Stable Φ] {p : Option Addr} {cap : Nat} {es : List DE} (c : Ctx W w (bufE p cap es :: S) Φ) (f : FuncId) (cp : Array Value) (q : DE → Bool) (hlen : es.length ≤ 1000000) (hf : okFun Tryz.prog f = true)
    (hq : ∀ x ∈ es, GivesIn Φ Tryz.prog f (Array.mk (x.v :: cp.toList)) (.bool (q x))) {K : Ending → World → Prop} (hk : ∀ w', Ctx W w' (bufE p cap es :: S) Φ → K (.returned (.int .i64 (findI q 0 es))) w') :
    Calls Tryz.prog F.slices_IndexFunc_api_Delta_api_Delta #[.slice p es.length cap, .func (.func f) #[] cp] w K := by
  refine (Bslices_IndexFunc_api_Delta_api_Delta_run p es.length cap f cp (J := fun u w' => K (.returned u) w') c ?_).mono fun e w' ⟨v, he, hj⟩ => by rw [he]; exact hj
  refine exI_mk (fun n R' Φ' m => ∃ i : Nat, n = i ∧ i ≤ es.length ∧ R' = bufE p cap es :: S ∧ Φ' = Φ ∧ m = es.length - i ∧ findI q 0 es = findI q i (es.drop i)) ⟨⟨_, Φ, _, inferInstance, fun w F c => c, 0, rfl, Nat.zero_le _, rfl, rfl, rfl, rfl⟩, ?_⟩
  rintro n R1 Φ1 m _ ⟨i, rfl, hi, rfl, rfl, rfl, hor⟩
  refine Br.intro (fun hlt => ?_) (fun hge => fun w G cx => ?_)
  · have hlt : i < es.length := by simpa using hlt
    rw [findI_drop q es i hlt] at hor
    have hpg : ∃ g, p = some ⟨g, 0, none⟩ := e_ptr c (by omega)
    obtain ⟨g, rfl⟩ := hpg
    obtain ⟨X, hX⟩ : ∃ X, es[i]? = some X := ⟨_, List.getElem?_eq_getElem hlt⟩
    have hXe : es[i] = X := by rw [List.getElem?_eq_getElem hlt] at hX; exact Option.some.inj hX
    rw [hXe] at hor
    refine ⟨by omega, ptrK_intro g 0 rfl fun w G cx => ⟨X.d.time, X.p, X.d.row.length, X.c, X.d.n, by rw [Int.toNat_natCast, Nat.zero_add]; exact e_row cx hX, fun w G cx => ⟨hf, (hq X (List.mem_of_getElem? hX)).use cx fun w cx => ⟨_, rfl, _, Φ1, inferInstance, cx, Br.intro (fun h => fun w G cx => ?_) (fun h => ⟨by unfold I64; omega, _, Φ1, es.length - (i + 1), inferInstance, fun w F c => c, ⟨i + 1, rfl, hlt, rfl, rfl, rfl, ?_⟩, by omega⟩)⟩⟩⟩⟩
    · have := hk w cx.left
      rw [hor, if_pos h] at this
      exact this
    · rw [hor, if_neg (by rw [h]; simp)]
  · have hge : i = es.length := Nat.le_antisymm hi (by simpa using hge)
    have := hk w cx.left
    rw [hor, hge, List.drop_length] at this
    exact this

theorem findI_none {α : Type} (q : α → Bool) : ∀ (l : List α) (i : Nat), l.any q = false → findI q i l = -1
  | [], _, _ => rfl
  | x :: r, i, h => by
    rw [List.any_cons, Bool.or_eq_false_iff] at h
    unfold findI
    rw [if_neg (by rw [h.1]; simp)]
    exact findI_none q r (i + 1) h.2
theorem findI_some {α : Type} (q : α → Bool) : ∀ (l : List α) (i : Nat), l.any q = true → ∃ j : Nat, findI q i l = ((i + j : Nat) : Int) ∧ ∃ h : j < l.length, q l[j] = true ∧ ∀ x ∈ l.take j, q x = false
  | [], i, h => by simp at h
  | x :: r, i, h => by
    cases hx : q x with
    | true => exact ⟨0, by unfold findI; rw [if_pos hx]; rfl, by simp, by simpa using hx, by simp⟩
    | false =>
      rw [List.any_cons, hx, Bool.false_or] at h
      obtain ⟨j, h1, h2, h3, h4⟩ := findI_some q r (i + 1) h
      refine ⟨j + 1, ?_, by simp; omega, by simpa using h3, fun y hy => ?_⟩
      · unfold findI; rw [if_neg (by rw [hx]; simp), h1]; congr 1; omega
      · rw [List.take_succ_cons] at hy
        rcases List.mem_cons.1 hy with rfl | hy
        · exact hx
        · exact h4 y hy

theorem zeroD : ∀ w : World, (zeroValue 36).run Tryz.prog w = .ok (.agg #[.int .i64 0, .slice none 0 0, .int .i64 0]) w := fun w => by kernel_rfl

set_option maxHeartbeats 2000000 in
/-- what is left after DeleteFunc -/
theorem DeleteE_use {W w : World} {S : List Own} {Φ : PW} [Stable Φ] {p : Option Addr} {cap : Nat} {es : List DE} (c : Ctx W w (bufE p cap es :: S) Φ) (f : FuncId) (cp : Array Value) (q : DE → Bool) (hlen : es.length ≤ 1000000) (hf : okFun Tryz.prog f = true)
    (hq : ∀ x ∈ es, GivesIn Φ Tryz.prog f (Array.mk (x.v :: cp.toList)) (.bool (q x))) {K : Ending → World → Prop}
    (hk : ∀ w', Ctx W w' (bufE p cap (es.filter fun x => !q x) :: S) Φ → K (.returned (.slice p (es.filter fun x => !q x).length cap)) w') :
    Calls Tryz.prog F.slices_DeleteFunc_api_Delta_api_Delta #[.slice p es.length cap, .func (.func f) #[] cp] w K := by
  have hcap : es.length ≤ cap := (c.bufLen 0 rfl).2.1
  have hp : 0 < es.length → ∃ g, p = some ⟨g, 0, none⟩ := fun h => e_ptr c h
  refine (Bslices_DeleteFunc_api_Delta_api_Delta_run p es.length cap f cp (J := fun u w' => K (.returned u) w') c ?_).mono fun e w' ⟨v, he, hj⟩ => by rw [he]; exact hj
  refine fun w G cx => IndexE_use (S := S ++ G) cx f cp q hlen hf hq fun w cx => ⟨_, rfl, bufE p cap es :: S, Φ, inferInstance, cx, ?_⟩
  cases hsome : es.any q with
  | false =>
    rw [findI_none q es 0 hsome]
    have hfil : (es.filter fun x => !q x) = es := List.filter_eq_self.2 fun x hx => by
      have := List.any_eq_false.1 hsome x hx
      simpa using this
    rw [hfil] at hk
    exact Br.intro (fun _ => fun w G cx => hk w cx.left) (fun h => by exfalso; revert h; decide)
  | true =>
  obtain ⟨j0, hj0, hj1, hj2, hj3⟩ := findI_some q es 0 hsome
  rw [Nat.zero_add] at hj0
  obtain ⟨g, rfl⟩ := hp (by omega)
  rw [hj0]
  refine Br.intro (fun h => by have := of_decide_eq_true h; omega) (fun _ => ⟨by unfold I64; omega, ?_⟩)
  have hfil : (es.take j0).filter (fun x => !q x) = es.take j0 := List.filter_eq_self.2 fun x hx => by rw [hj3 x hx]; rfl
  have hstart : (es.take (j0 + 1)).filter (fun x => !q x) = es.take j0 := by
    rw [List.take_succ_eq_append_getElem hj1, List.filter_append, hfil]
    simp [hj2]
  clear cx
  refine exI_mk (fun a n R' Φ' m => ∃ (i j : Nat) (ds : List DE), a = i ∧ n = j ∧ j ≤ es.length ∧ i < j ∧ R' = bufE (some ⟨g, 0, none⟩) cap ds :: S ∧ Φ' = Φ ∧ m = es.length - j ∧ ds.length = es.length ∧ i = ((es.take j).filter fun x => !q x).length ∧ ds.take i = ((es.take j).filter fun x => !q x) ∧ ds.drop j = es.drop j)
    ⟨⟨_, Φ, _, inferInstance, fun w G cx => cx, j0, j0 + 1, es, rfl, by omega, by omega, by omega, rfl, rfl, rfl, rfl, by rw [hstart]; simp; omega, by rw [hstart], rfl⟩, ?_⟩
  rintro _ _ R1 Φ1 m _ ⟨i, j, ds, rfl, rfl, hjl, hij, rfl, rfl, rfl, hcl, hi, hct, hcd⟩
  refine Br.intro (fun hlt => ?_) (fun hge => ?_)
  · have hlt : j < es.length := by simpa using hlt
    have hcj : ds[j]? = some es[j] := by
      have : (ds.drop j)[0]? = (es.drop j)[0]? := by rw [hcd]
      rw [List.getElem?_drop, List.getElem?_drop, Nat.add_zero, List.getElem?_eq_getElem hlt] at this
      exact this
    have hts : (es.take (j + 1)).filter (fun x => !q x) = (es.take j).filter (fun x => !q x) ++ (if q es[j] = true then [] else [es[j]]) := by
      rw [List.take_succ_eq_append_getElem hlt, List.filter_append]
      refine congrArg (fun z => (es.take j).filter (fun x => !q x) ++ z) ?_
      cases h : q es[j] <;> simp [h]
    have hnext : ∀ ds' : List DE, ds'.drop j = es.drop j → ds'.drop (j + 1) = es.drop (j + 1) := fun ds' h => by
      have := congrArg (List.drop 1) h
      rwa [List.drop_drop, List.drop_drop] at this
    obtain ⟨X, hX⟩ : ∃ X, es[j] = X := ⟨_, rfl⟩
    have hXm : X ∈ es := by rw [← hX]; exact List.getElem_mem hlt
    rw [hX] at hcj hts
    refine ⟨by omega, ptrK_intro g 0 rfl fun w G cx => ⟨X.d.time, X.p, X.d.row.length, X.c, X.d.n, by rw [Int.toNat_natCast, Nat.zero_add]; exact e_row cx hcj, fun _ w G cx => ⟨hf, (hq X hXm).use cx fun w cx => ⟨_, rfl, _, Φ1, inferInstance, cx, Br.intro (fun h => ⟨by omega, ptrK_intro g 0 rfl fun w G cx => ⟨by rw [Int.toNat_natCast, Nat.zero_add]; exact e_can cx (by omega), fun w' hw' => ?_⟩⟩) (fun h => ?_)⟩⟩⟩⟩
    · rw [Int.toNat_natCast, Nat.zero_add] at hw'
      have cx1 := e_put cx (i := i) (by omega) X hw'
      have h : q X = false := by simpa using h
      rw [if_neg (by rw [h]; simp)] at hts
      refine ⟨bufE (some ⟨g, 0, none⟩) cap (ds.set i X) :: S, Φ1, inferInstance, cx1, by unfold I64; omega, by unfold I64; omega, _, Φ1, es.length - (j + 1), inferInstance, fun w G cx => cx, ⟨i + 1, j + 1, ds.set i X, by omega, by omega, hlt, by omega, rfl, rfl, rfl, by simp [hcl], by rw [hts, List.length_append, ← hi]; rfl, ?_, hnext _ ?_⟩, by omega⟩
      · rw [hts, ← hct, List.take_succ_eq_append_getElem (by simp [hcl]; omega), List.take_set_of_le (Nat.le_refl _), List.getElem_set_self]
      · rw [List.drop_set_of_lt (by omega)]; exact hcd
    · have h : q X = true := by simpa using h
      rw [if_pos h, List.append_nil] at hts
      exact ⟨by unfold I64; omega, _, Φ1, es.length - (j + 1), inferInstance, fun w G cx => cx, ⟨i, j + 1, ds, rfl, by omega, hlt, by omega, rfl, rfl, rfl, hcl, by rw [hts]; exact hi, by rw [hts]; exact hct, hnext _ hcd⟩, by omega⟩
  · have hge : j = es.length := Nat.le_antisymm hjl (by simpa using hge)
    subst hge
    rw [List.take_length] at hi hct
    refine ⟨by omega, fun w G cx => ?_⟩
    have hne : ¬ cap = i := by omega
    have hsub : subPtr (some ⟨g, 0, none⟩) 3 (i : Int).toNat cap = some ⟨g, i * 3, none⟩ := by
      unfold subPtr
      rw [Int.toNat_natCast, if_neg hne, Option.map_some]
      refine congrArg some ?_
      unfold Addr.add
      split
      · rename_i h; rw [h]
      · show Addr.mk g (0 + i * 3) none = _
        rw [Nat.zero_add]
    rw [hsub, Int.toNat_natCast]
    have hcan : CanWrite w g (i * 3) ((es.length - i) * 3) := cx.bufCan 0 rfl rfl (by rw [cellsE_len, hcl]; omega)
    have hrun := run_clear_cells (P := Tryz.prog) w 22 36 0 (.agg #[.int .i64 0, .slice none 0 0, .int .i64 0]) Tryz.underlying22 zeroD (by decide) (by decide) g (i * 3) (es.length - i) (cap - i) (by omega) (fun t ht => (hcan t ht).1) (fun t ht => (hcan t ht).2)
    have hzl : (Builtin.zeroCells (Value.agg #[.int .i64 0, .slice none 0 0, .int .i64 0]).cells (es.length - i)).toList.length = (es.length - i) * 3 := by
      simp only [Builtin.zeroCells, Array.toList_map, List.length_map]
      rw [Array.length_toList, Array.size_range]; rfl
    have cx1 := cx.bufPuts 0 rfl rfl (by rw [cellsE_len, hcl]; omega) (by rw [cellsE_len, hcl, hzl]; omega) (w' := w.setCells g (i * 3) (Builtin.zeroCells (Value.agg #[.int .i64 0, .slice none 0 0, .int .i64 0]).cells (es.length - i)).toList) rfl
    have cx2 := Ctx.bufShrink (i := i) cx1 (by omega)
    rw [setL_low, cellsE_take, hct] at cx2
    have hlf : (es.filter fun x => !q x).length = i := hi.symm
    have e2 : subPtr (some ⟨g, 0, none⟩) 3 0 cap = some ⟨g, 0, none⟩ := by
      unfold subPtr
      split
      · rfl
      · simp [Addr.add]
    refine ⟨_, run_clr hrun, bufE (some ⟨g, 0, none⟩) cap (es.filter fun x => !q x) :: S, Φ1, inferInstance, by unfold bufE; rw [hlf]; exact cx2, by omega, fun w G cx => ?_⟩
    rw [e2, ← hlf]
    exact hk w cx.left

/-! ### Upto, After -/
/-- a captured int -/
theorem late1_in {Φ : PW} [Stable Φ] (x : DeltaD) (p : Option Addr) (cap : Nat) (k : Nat) (t : Int) (hΦ : ∀ M w, Φ M w → w.cell? ⟨k, 0, none⟩ = some (.int .i64 t)) : GivesIn Φ Tryz.prog F.delta_Upto_1 #[x.v p cap, .pointer (some ⟨k, 0, none⟩)] (.bool (decide (t < x.time))) := by
  refine gives_in (Bdelta_Upto_1_run x.time p x.row.length cap x.n k 0) fun W R => ?_
  exact fun _ w G cx => ⟨t, hΦ _ _ cx.phi, fun w G cx => ⟨rfl, cx.left⟩⟩
theorem early1_in {Φ : PW} [Stable Φ] (x : DeltaD) (p : Option Addr) (cap : Nat) (k : Nat) (t : Int) (hΦ : ∀ M w, Φ M w → w.cell? ⟨k, 0, none⟩ = some (.int .i64 t)) : GivesIn Φ Tryz.prog F.delta_After_1 #[x.v p cap, .pointer (some ⟨k, 0, none⟩)] (.bool (decide (x.time ≤ t))) := by
  refine gives_in (Bdelta_After_1_run x.time p x.row.length cap x.n k 0) fun W R => ?_
  exact fun _ w G cx => ⟨t, hΦ _ _ cx.phi, fun w G cx => ⟨rfl, cx.left⟩⟩

abbrev lowP (l : List DeltaD) (t : Int) : List DeltaD := l.filter fun x : DeltaD => decide (x.time ≤ t)
abbrev highP (l : List DeltaD) (t : Int) : List DeltaD := l.filter fun x : DeltaD => decide (t < x.time)
def uptoP (l : List DeltaD) (t : Int) : List DeltaD := consP (lowP l t)
def afterP (l : List DeltaD) (t : Int) : List DeltaD := consP (highP l t)

theorem map_filterE (es : List DE) (q : DeltaD → Bool) : (es.filter fun x => q x.d).map DE.d = (es.map DE.d).filter q := by
  rw [List.filter_map]; rfl

theorem Upto_sl {Φ : PW} [Stable Φ] (p : Option Addr) (cap : Nat) (l : List DeltaD) (t : Int) (hΦ : ∀ M w, Φ M w → Sl M w p l) (hlen : l.length ≤ 1000000) (hrow : ∀ x ∈ l, x.row.length ≤ 1000000) :
    GivesSl Φ Tryz.prog F.delta_Upto #[.slice p l.length cap, .int .i64 t] (uptoP l t) id := by
  refine gives_sl (Bdelta_Upto_run p l.length cap t) fun W R => ?_
  intro k w G cx
  refine (CloneD_in p cap l hΦ (by omega)).use cx fun p1 c1 cs w cx => ?_
  obtain ⟨es, rfl, hes⟩ := elems_ex cx.phi.2
  have hl : l.length = es.length := by rw [← hes, List.length_map]
  have cx1 : Ctx W w (.blk k [.int .i64 t] 3 :: bufE p1 c1 es :: (R ++ G)) (fun M w => Φ M w ∧ EPhi es M w) := by
    have h1 := (cx.weak (Ψ := fun M w => Φ M w ∧ EPhi es M w) fun M w h => ⟨h.1, elems_e (by rw [hes]; exact h.2)⟩).swap
    rw [hl] at h1
    exact h1
  refine ⟨p1, l.length, c1, rfl, .blk k [.int .i64 t] 3 :: bufE p1 c1 es :: R, _, inferInstance, cx1, fun w G cx => ?_⟩
  rw [hl]
  have cx2 : Ctx W w (bufE p1 c1 es :: (R ++ G)) (Go.Vc.Aside W [.blk k [.int .i64 t] 3] fun M w => Φ M w ∧ EPhi es M w) := cx.aside (Q := [.blk k [.int .i64 t] 3])
  have hcell : ∀ M w, Go.Vc.Aside W [.blk k [.int .i64 t] 3] (fun M w => Φ M w ∧ EPhi es M w) M w → w.cell? ⟨k, 0, none⟩ = some (.int .i64 t) := fun M w h => by
    have := (h.parked (o := .blk k [.int .i64 t] 3) (by simp)).1
    exact (show Blk w k [.int .i64 t] 3 from this).cell_eq rfl
  refine DeleteE_use (S := R ++ G) cx2 F.delta_Upto_1 #[.pointer (some ⟨k, 0, none⟩)] (fun x => decide (t < x.d.time)) (by omega) (by kernel_rfl) (fun x _ => late1_in x.d x.p x.c k t hcell) fun w cx => ?_
  have hfil : (es.filter fun x : DE => !decide (t < x.d.time)) = es.filter fun x : DE => decide (x.d.time ≤ t) := List.filter_congr fun x _ => by
    by_cases h : t < x.d.time
    · rw [decide_eq_true h, decide_eq_false (by omega)]; rfl
    · rw [decide_eq_false h, decide_eq_true (by omega)]; rfl
  rw [hfil] at cx ⊢
  have hmap : (es.filter fun x : DE => decide (x.d.time ≤ t)).map DE.d = lowP l t := by rw [← hes]; exact map_filterE es (fun x : DeltaD => decide (x.time ≤ t))
  obtain ⟨fs, hfs⟩ : ∃ fs, (es.filter fun x : DE => decide (x.d.time ≤ t)) = fs := ⟨_, rfl⟩
  have hsub : ∀ x ∈ fs, x ∈ es := fun x hx => by rw [← hfs] at hx; exact (List.mem_filter.1 hx).1
  rw [hfs] at cx hmap ⊢
  have cx3 : Ctx W w (bufE p1 c1 fs :: (R ++ G)) (fun M w => Φ M w ∧ EPhi fs M w) := (cx.unaside.sub (List.sublist_cons_self _ _)).weak fun M w h => ⟨h.1, fun x hx => h.2 x (hsub x hx)⟩
  obtain ⟨ho, hle⟩ : (lowP l t).length = fs.length ∧ fs.length ≤ es.length := ⟨by rw [← hmap, List.length_map], by rw [← hfs]; exact List.length_filter_le _ _⟩
  have cx4 : Ctx W w (.buf p1 (fs.map DE.d).length c1 (cellsE fs) 36 3 :: (R ++ G)) (fun M w => Φ M w ∧ EPhi fs M w) := by rw [List.length_map]; exact cx3
  obtain ⟨cx5, hs, _⟩ := Ctx.freeze (α := DeltaD) (l := fs.map DE.d) cx4.fst (e_elems cx4.phi.2)
  rw [hmap] at hs
  refine ⟨p1, fs.length, c1, rfl, R, fun M w => Φ M w ∧ Sl M w p1 (lowP l t), inferInstance, cx5.add hs, fun w G cx => ?_⟩
  rw [← ho]
  refine (Consolidate_sl (Φ := fun M w => Φ M w ∧ Sl M w p1 (lowP l t)) p1 c1 (lowP l t) (fun M w h => h.2) (by omega) (fun x hx => hrow x (List.mem_filter.1 hx).1)).use cx fun p3 c3 w h1 h2 cx => ⟨p3, _, c3, rfl, R, fun M w => Φ M w ∧ Sl M w p3 (uptoP l t), inferInstance, cx.weak fun M w h => ⟨h.1.1, h.2⟩, fun w G cx => ⟨p3, c3, rfl, h1, h2, cx.left⟩⟩

theorem After_sl {Φ : PW} [Stable Φ] (p : Option Addr) (cap : Nat) (l : List DeltaD) (t : Int) (hΦ : ∀ M w, Φ M w → Sl M w p l) (hlen : l.length ≤ 1000000) (hrow : ∀ x ∈ l, x.row.length ≤ 1000000) :
    GivesSl Φ Tryz.prog F.delta_After #[.slice p l.length cap, .int .i64 t] (afterP l t) id := by
  refine gives_sl (Bdelta_After_run p l.length cap t) fun W R => ?_
  intro k w G cx
  refine (CloneD_in p cap l hΦ (by omega)).use cx fun p1 c1 cs w cx => ?_
  obtain ⟨es, rfl, hes⟩ := elems_ex cx.phi.2
  have hl : l.length = es.length := by rw [← hes, List.length_map]
  have cx1 : Ctx W w (.blk k [.int .i64 t] 3 :: bufE p1 c1 es :: (R ++ G)) (fun M w => Φ M w ∧ EPhi es M w) := by
    have h1 := (cx.weak (Ψ := fun M w => Φ M w ∧ EPhi es M w) fun M w h => ⟨h.1, elems_e (by rw [hes]; exact h.2)⟩).swap
    rw [hl] at h1
    exact h1
  refine ⟨p1, l.length, c1, rfl, .blk k [.int .i64 t] 3 :: bufE p1 c1 es :: R, _, inferInstance, cx1, fun w G cx => ?_⟩
  rw [hl]
  have cx2 : Ctx W w (bufE p1 c1 es :: (R ++ G)) (Go.Vc.Aside W [.blk k [.int .i64 t] 3] fun M w => Φ M w ∧ EPhi es M w) := cx.aside (Q := [.blk k [.int .i64 t] 3])
  have hcell : ∀ M w, Go.Vc.Aside W [.blk k [.int .i64 t] 3] (fun M w => Φ M w ∧ EPhi es M w) M w → w.cell? ⟨k, 0, none⟩ = some (.int .i64 t) := fun M w h => by
    have := (h.parked (o := .blk k [.int .i64 t] 3) (by simp)).1
    exact (show Blk w k [.int .i64 t] 3 from this).cell_eq rfl
  refine DeleteE_use (S := R ++ G) cx2 F.delta_After_1 #[.pointer (some ⟨k, 0, none⟩)] (fun x => decide (x.d.time ≤ t)) (by omega) (by kernel_rfl) (fun x _ => early1_in x.d x.p x.c k t hcell) fun w cx => ?_
  have hfil : (es.filter fun x : DE => !decide (x.d.time ≤ t)) = es.filter fun x : DE => decide (t < x.d.time) := List.filter_congr fun x _ => by
    by_cases h : x.d.time ≤ t
    · rw [decide_eq_true h, decide_eq_false (by omega)]; rfl
    · rw [decide_eq_false h, decide_eq_true (by omega)]; rfl
  rw [hfil] at cx ⊢
  have hmap : (es.filter fun x : DE => decide (t < x.d.time)).map DE.d = highP l t := by rw [← hes]; exact map_filterE es (fun x : DeltaD => decide (t < x.time))
  obtain ⟨fs, hfs⟩ : ∃ fs, (es.filter fun x : DE => decide (t < x.d.time)) = fs := ⟨_, rfl⟩
  have hsub : ∀ x ∈ fs, x ∈ es := fun x hx => by rw [← hfs] at hx; exact (List.mem_filter.1 hx).1
  rw [hfs] at cx hmap ⊢
  have cx3 : Ctx W w (bufE p1 c1 fs :: (R ++ G)) (fun M w => Φ M w ∧ EPhi fs M w) := (cx.unaside.sub (List.sublist_cons_self _ _)).weak fun M w h => ⟨h.1, fun x hx => h.2 x (hsub x hx)⟩
  obtain ⟨ho, hle⟩ : (highP l t).length = fs.length ∧ fs.length ≤ es.length := ⟨by rw [← hmap, List.length_map], by rw [← hfs]; exact List.length_filter_le _ _⟩
  have cx4 : Ctx W w (.buf p1 (fs.map DE.d).length c1 (cellsE fs) 36 3 :: (R ++ G)) (fun M w => Φ M w ∧ EPhi fs M w) := by rw [List.length_map]; exact cx3
  obtain ⟨cx5, hs, _⟩ := Ctx.freeze (α := DeltaD) (l := fs.map DE.d) cx4.fst (e_elems cx4.phi.2)
  rw [hmap] at hs
  refine ⟨p1, fs.length, c1, rfl, R, fun M w => Φ M w ∧ Sl M w p1 (highP l t), inferInstance, cx5.add hs, fun w G cx => ?_⟩
  rw [← ho]
  refine (Consolidate_sl (Φ := fun M w => Φ M w ∧ Sl M w p1 (highP l t)) p1 c1 (highP l t) (fun M w h => h.2) (by omega) (fun x hx => hrow x (List.mem_filter.1 hx).1)).use cx fun p3 c3 w h1 h2 cx => ⟨p3, _, c3, rfl, R, fun M w => Φ M w ∧ Sl M w p3 (afterP l t), inferInstance, cx.weak fun M w h => ⟨h.1.1, h.2⟩, fun w G cx => ⟨p3, c3, rfl, h1, h2, cx.left⟩⟩

end Go.Proofs.YtnapfhbibikbiaaGreatDoor
end

/-
  Consolidated, walked; DifferenceLeast in plain Lean, and walked.
-/
section
set_option linter.unusedVariables false
set_option linter.unusedSimpArgs false
namespace Go.Proofs.YtnapfhbibikbiaaGreatDoor
open Go.Vc


def consAt (l : List DeltaD) (j : Nat) : Bool := match l[j]? with
  | none => false
  | some y => decide (y.n ≠ 0) && match j with
    | 0 => true
    | i + 1 => match l[i]? with
      | none => false
      | some x => decide (cmpD x y < 0)
def consolidated (l : List DeltaD) : Bool := (List.range l.length).all fun j => consAt l j

theorem consolidated_false {l : List DeltaD} {j : Nat} (hj : j < l.length) (h : consAt l j = false) : consolidated l = false := by
  unfold consolidated
  rw [List.all_eq_false]
  exact ⟨j, List.mem_range.2 hj, by rw [h]; simp⟩
theorem consolidated_true {l : List DeltaD} (h : ∀ j, j < l.length → consAt l j = true) : consolidated l = true := by
  unfold consolidated
  rw [List.all_eq_true]
  exact fun j hj => h j (List.mem_range.1 hj)

theorem Consolidated_pin {Φ : PW} [Stable Φ] (p : Option Addr) (cap : Nat) (l : List DeltaD) (b o : Nat) (cs : List (List Value)) (hp : 0 < l.length → p = some ⟨b, o, none⟩) (hΦ : ∀ M w, Φ M w → Pin b o cs l M w) (hlen : l.length ≤ 9223372036854775807) :
    GivesIn Φ Tryz.prog F.delta_Consolidated #[.slice p l.length cap] (.bool (consolidated l)) := by
  refine in_cells hΦ fun hcs => ?_
  refine gives_in (Bdelta_Consolidated_run p l.length cap) fun W R => ?_
  refine exI_mk (fun n R' Φ' k => ∃ i : Nat, n = i ∧ i ≤ l.length ∧ R' = R ∧ Φ' = Φ ∧ k = l.length - i ∧ ∀ j, j < i → consAt l j = true) ⟨⟨R, Φ, _, inferInstance, fun w F c => c, 0, rfl, Nat.zero_le _, rfl, rfl, rfl, fun j hj => by omega⟩, ?_⟩
  rintro n R1 Φ1 k _ ⟨i, rfl, hi, rfl, rfl, rfl, hok⟩
  refine Br.intro (fun hlt => ?_) (fun hge => fun w F cx => ⟨?_, cx.left⟩)
  · have hlt : i < l.length := by simpa using hlt
    have hp := hp (by omega)
    obtain ⟨q, qc, he, hq1, hq2, _, _⟩ := hcs i hlt
    refine ⟨by omega, ptrK_intro b o hp fun w G cx => ⟨_, q, _, qc, _, pin_rowAt (hΦ _ _ cx.phi) hlt he, fun _ => ⟨R1, Φ1, inferInstance, fun _ _ c => c, Br.intro (fun h0 => fun w F cx => ⟨?_, cx.left⟩) (fun h0 => Br.intro (fun h1 => ?_) (fun h1 => ?_))⟩⟩⟩
    · have h0 : l[i].n = 0 := by simpa using h0
      rw [consolidated_false hlt]
      unfold consAt
      rw [List.getElem?_eq_getElem hlt]
      simp [h0]
    · have h0 : ¬ l[i].n = 0 := by simpa using h0
      have h1 : 0 < i := by simpa using h1
      obtain ⟨j, rfl⟩ : ∃ j, i = j + 1 := ⟨i - 1, by omega⟩
      obtain ⟨q', qc', he', hq1', hq2', _, _⟩ := hcs j (by omega)
      have hc : consAt l (j + 1) = decide (cmpD l[j] l[j + 1] < 0) := by
        unfold consAt
        simp only
        rw [List.getElem?_eq_getElem hlt, List.getElem?_eq_getElem (show j < l.length by omega)]
        simp [h0]
      have hcmp : GivesIn Φ1 Tryz.prog F.delta_compare #[l[j].v q' qc', l[j + 1].v q qc] (.int .i64 (cmpD l[j] l[j + 1])) := compareD_in l[j] l[j + 1] q' q qc' qc (fun M w h => pin_row (hΦ M w h) _ he') (fun M w h => pin_row (hΦ M w h) _ he) (len_max hq1' hq2')
      refine ⟨by unfold I64; omega, by omega, ptrK_intro b o hp ⟨l[j].time, q', l[j].row.length, qc', l[j].n, ?_, ?_⟩⟩
      · intro w F cx
        refine ⟨l[j].time, q', l[j].row.length, qc', l[j].n, ?_, rfl⟩
        have := pin_rowAt (hΦ _ _ cx.phi) (show j < l.length by omega) he'
        rw [show (((j + 1 : Nat) : Int) - 1).toNat = j by omega]
        exact this
      intro w F cx
      refine hcmp.use cx fun w cx => ⟨cmpD l[j] l[j + 1], rfl, R1, Φ1, inferInstance, cx, ?_⟩
      refine Br.intro (fun h2 => fun w F cx => ⟨?_, cx.left⟩) (fun h2 => ⟨by unfold I64; omega, R1, Φ1, l.length - (j + 1 + 1), inferInstance, fun w F c => c, ⟨j + 1 + 1, rfl, hlt, rfl, rfl, rfl, fun i hi => ?_⟩, by omega⟩)
      · have h2 : 0 ≤ cmpD l[j] l[j + 1] := by simpa using h2
        rw [consolidated_false hlt]
        rw [hc, decide_eq_false (by omega)]
      · have h2 : ¬ 0 ≤ cmpD l[j] l[j + 1] := by simpa using h2
        rcases Nat.lt_or_ge i (j + 1) with h | h
        · exact hok i h
        · rw [show i = j + 1 by omega, hc, decide_eq_true (by omega)]
    · have h0 : ¬ l[i].n = 0 := by simpa using h0
      have h1 : i = 0 := by simpa using h1
      subst h1
      refine ⟨by unfold I64; omega, R1, Φ1, l.length - 1, inferInstance, fun w F c => c, ⟨1, rfl, hlt, rfl, rfl, rfl, fun i hi => ?_⟩, by omega⟩
      rw [show i = 0 by omega]
      unfold consAt
      simp only
      rw [List.getElem?_eq_getElem hlt]
      simp [h0]
  · have hge : i = l.length := Nat.le_antisymm hi (by simpa using hge)
    rw [consolidated_true (hge ▸ hok)]

theorem Consolidated_in {Φ : PW} [Stable Φ] (p : Option Addr) (cap : Nat) (l : List DeltaD) (hΦ : ∀ M w, Φ M w → Sl M w p l) (hlen : l.length ≤ 9223372036854775807) :
    GivesIn Φ Tryz.prog F.delta_Consolidated #[.slice p l.length cap] (.bool (consolidated l)) :=
  .pinned hΦ fun b o cs hp => Consolidated_pin (Φ := fun M w => Φ M w ∧ Pin b o cs l M w) p cap l b o cs hp (fun _ _ h => h.2) hlen


theorem norm_cons {l : List DeltaD} (h : Norm l) : consolidated l = true := consolidated_true fun j hj => by
  unfold consAt
  rw [List.getElem?_eq_getElem hj]
  have h0 : decide (l[j].n ≠ 0) = true := decide_eq_true (h.nz _ (List.getElem_mem _))
  cases j with
  | zero => simp only [h0, Bool.true_and]
  | succ i =>
    simp only [h0, Bool.true_and, List.getElem?_eq_getElem (show i < l.length by omega)]
    exact decide_eq_true (List.pairwise_iff_getElem.1 h.asc i (i + 1) (by omega) hj (by omega))

theorem sumK_neg (k : Key) : ∀ a : List DeltaD, (sumK (a.map negD) k + sumK a k) % 18446744073709551616 = 0
  | [] => rfl
  | x :: a => by
    have ih := sumK_neg k a
    have h := w64_mod (0 - x.n)
    show ((if (negD x).key = k then (negD x).n else 0) + sumK (a.map negD) k + ((if x.key = k then x.n else 0) + sumK a k)) % 18446744073709551616 = 0
    have e1 : (negD x).key = x.key := rfl
    have e2 : (negD x).n = w64 (0 - x.n) := rfl
    rw [e1, e2]
    by_cases hk : x.key = k
    · rw [if_pos hk, if_pos hk]; omega
    · rw [if_neg hk, if_neg hk]; omega

theorem find_neg (a : List DeltaD) (k : Key) : findP (a.map negD) k = w64 (-(findP a k)) := by
  unfold findP
  apply w64_cong
  have := sumK_neg k a
  have := w64_mod (sumK a k)
  omega

theorem find_cons (l : List DeltaD) (k : Key) : findP (consP l) k = findP l k := (consP_norm l).2 k
theorem find_sub (a b : List DeltaD) (k : Key) : findP (subP a b) k = w64 (findP a k - findP b k) := by
  unfold subP
  rw [find_cons, findP_app, find_neg, w64_r, ← Int.sub_eq_add_neg]
theorem sub_self (a : List DeltaD) : subP a a = [] := by
  have h : ∀ k, findP [] k = findP (subP a a) k := fun k => by
    rw [find_sub, Int.sub_self]; rfl
  have := consP_is (l := subP a a) Norm.nil h
  rwa [show consP (subP a a) = subP a a from consP_cons _] at this
abbrev Rows1 (l : List DeltaD) : Prop := ∀ x ∈ l, x.row.length ≤ 1000000
end Go.Proofs.YtnapfhbibikbiaaGreatDoor
end

/-
  few, Bytes, small, walked.
-/
section
set_option linter.unusedVariables false
set_option linter.unusedSimpArgs false
namespace Go.Proofs.YtnapfhbibikbiaaGreatDoor
open Go.Vc


/-! ### few -/
def shortR (r : List ValD) : Bool := r.all fun v => decide (v.text.size ≤ 200)
def okRow28 (r : List ValD) : Bool := (shortR r && decide ((r.length : Int) ≤ 10)) && rightR r
def fewP (l : List DeltaD) (n : Int) : Bool := decide ((l.length : Int) ≤ n) && l.all fun x => okRow28 x.row

theorem shortR_step {r : List ValD} {k : Nat} (h : k < r.length) : shortR (r.take (k + 1)) = (shortR (r.take k) && decide (r[k].text.size ≤ 200)) := by
  unfold shortR
  rw [List.take_succ_eq_append_getElem h, List.all_append]
  simp
theorem shortR_less {r : List ValD} {k : Nat} (h : k < r.length) (hb : ¬ r[k].text.size ≤ 200) : shortR r = false := by
  unfold shortR
  rw [List.all_eq_false]
  exact ⟨r[k], List.getElem_mem h, by simpa using hb⟩

theorem Few_pin {Φ : PW} [Stable Φ] (p : Option Addr) (cap : Nat) (l : List DeltaD) (n : Int) (g o : Nat) (cs : List (List Value)) (hp : 0 < l.length → p = some ⟨g, o, none⟩) (hΦ : ∀ M w, Φ M w → Pin g o cs l M w)
    (hlen : l.length ≤ 9223372036854775807) : GivesIn Φ Tryz.prog F.erratalaw28_few #[.slice p l.length cap, .int .i64 n] (.bool (fewP l n)) := by
  refine in_cells hΦ fun hcs => ?_
  refine gives_in (Berratalaw28_few_run p l.length cap n) fun W R => ?_
  refine exI_mk (fun iI R' Φ' k => ∃ i : Nat, iI = i ∧ i ≤ l.length ∧ R' = R ∧ Φ' = Φ ∧ k = l.length - i ∧ (l.all fun x => okRow28 x.row) = (l.drop i).all fun x => okRow28 x.row) ⟨⟨R, Φ, _, inferInstance, fun w F c => c, 0, rfl, Nat.zero_le _, rfl, rfl, rfl, rfl⟩, ?_⟩
  rintro iI R1 Φ1 k _ ⟨i, rfl, hi, rfl, rfl, rfl, hs⟩
  refine fun w G cx => Br.intro (fun hlt => ?_) (fun hge => fun w G cx => ⟨?_, cx.left⟩)
  · simp only [Bool.and_eq_true, decide_eq_true_eq] at hlt
    have hlt : i < l.length := by omega
    obtain ⟨r, rc, he, f1, f2, _, _⟩ := hcs i hlt
    have hrl : l[i].row.length ≤ 9223372036854775807 := len_max f1 f2
    rw [List.drop_eq_getElem_cons hlt, List.all_cons] at hs
    have hcell : ∀ {w : World} {G : List Own}, Ctx W w (R1 ++ G) Φ1 → w.cell? ⟨g, o + (i : Int).toNat * 3 + 1, none⟩ = some (.slice r l[i].row.length rc) := fun cx => by
      have := pin_rowAt (hΦ _ _ cx.phi) hlt he 1 (by simp)
      rw [Int.toNat_natCast]; simpa using this
    have hpp := hp (by omega)
    clear cx
    refine exI_mk (fun kI R' Φ' m => ∃ k : Nat, kI = k ∧ k ≤ l[i].row.length ∧ R' = R1 ∧ Φ' = Φ1 ∧ m = l[i].row.length - k ∧ shortR (l[i].row.take k) = true) ⟨⟨R1, Φ1, _, inferInstance, fun w F c => c, 0, rfl, Nat.zero_le _, rfl, rfl, rfl, rfl⟩, ?_⟩
    rintro kI R2 Φ2 m _ ⟨k, rfl, hk, rfl, rfl, rfl, hok⟩
    refine ⟨by omega, ptrK_intro g o hpp fun w G cx => ⟨r, l[i].row.length, rc, hcell cx, Br.intro (fun hlt2 => ?_) (fun hge2 => ?_)⟩⟩
    · have hlt2 : k < l[i].row.length := by have := of_decide_eq_true hlt2; omega
      refine ⟨by omega, ptrK_intro g o hpp fun w G cx => ⟨r, l[i].row.length, rc, hcell cx, by omega, ?_⟩⟩
      obtain ⟨b, o2, rfl⟩ := (pin_row (hΦ _ _ cx.phi) hlt he).there (by omega)
      refine ptrK_intro b o2 rfl fun w G cx => ⟨l[i].row[k].text, ?_, Br.intro (fun hb => fun w G cx => ⟨?_, cx.left⟩) (fun hb => ⟨by unfold I64; omega, R2, Φ2, l[i].row.length - (k + 1), inferInstance, fun w F c => c, ⟨k + 1, rfl, hlt2, rfl, rfl, rfl, ?_⟩, by omega⟩)⟩
      · have := sl_val (pin_row (hΦ _ _ cx.phi) hlt he) hlt2 2 (by simp)
        rw [Int.toNat_natCast]; simpa using this
      · have hb := of_decide_eq_true hb
        have h1 : okRow28 l[i].row = false := by unfold okRow28; rw [shortR_less hlt2 (by omega)]; rfl
        unfold fewP
        rw [hs, h1, Bool.false_and, Bool.and_false]
      · have hb := of_decide_eq_false hb
        rw [shortR_step hlt2, hok, Bool.true_and, decide_eq_true (by omega)]
    · have hge2 : k = l[i].row.length := by have := of_decide_eq_false hge2; omega
      subst hge2
      rw [List.take_length] at hok
      refine ⟨by omega, ptrK_intro g o hpp fun w G cx => ⟨r, l[i].row.length, rc, hcell cx, Br.intro (fun hb => fun w G cx => ⟨?_, cx.left⟩) (fun hb => ?_)⟩⟩
      · have hb := of_decide_eq_true hb
        have h1 : okRow28 l[i].row = false := by unfold okRow28; rw [decide_eq_false (by omega), Bool.and_false]; rfl
        unfold fewP
        rw [hs, h1, Bool.false_and, Bool.and_false]
      have hb := of_decide_eq_false hb
      refine ⟨by omega, ptrK_intro g o hpp fun w G cx => ⟨r, l[i].row.length, rc, hcell cx, fun w G cx => (RightRow3_in (Φ := Φ2) r rc l[i].row (fun M w h => pin_row (hΦ M w h) hlt he) hrl).use cx fun w cx => ⟨_, rfl, R2, Φ2, inferInstance, cx, Br.intro (fun h => fun w G cx => ⟨?_, cx.left⟩) (fun h => ⟨by unfold I64; omega, R2, Φ2, l.length - (i + 1), inferInstance, fun w F c => c, ⟨i + 1, rfl, hlt, rfl, rfl, rfl, ?_⟩, by omega⟩)⟩⟩⟩
      · have h1 : okRow28 l[i].row = false := by unfold okRow28; rw [show rightR l[i].row = false by simpa using h, Bool.and_false]
        unfold fewP
        rw [hs, h1, Bool.false_and, Bool.and_false]
      · have h1 : okRow28 l[i].row = true := by unfold okRow28; rw [hok, decide_eq_true (by omega), show rightR l[i].row = true by simpa using h]; rfl
        rw [hs, h1, Bool.true_and]
  · simp only [Bool.and_eq_false_iff, decide_eq_false_iff_not] at hge
    unfold fewP
    by_cases hl : (l.length : Int) ≤ n
    · have hi : i = l.length := by omega
      rw [hs, hi, List.drop_length, decide_eq_true hl]
      rfl
    · rw [decide_eq_false hl, Bool.false_and]

theorem Few_in {Φ : PW} [Stable Φ] (p : Option Addr) (cap : Nat) (l : List DeltaD) (n : Int) (hΦ : ∀ M w, Φ M w → Sl M w p l) (hlen : l.length ≤ 9223372036854775807) : GivesIn Φ Tryz.prog F.erratalaw28_few #[.slice p l.length cap, .int .i64 n] (.bool (fewP l n)) :=
  .pinned hΦ fun g o cs hp => Few_pin (Φ := fun M w => Φ M w ∧ Pin g o cs l M w) p cap l n g o cs hp (fun M w h => h.2) hlen

/-- what few says -/
theorem few_rows {l : List DeltaD} {n : Int} (h : fewP l n = true) : (l.length : Int) ≤ n ∧ (∀ x ∈ l, x.row.length ≤ 1000000) ∧ ∀ x ∈ l, x.row.length ≤ 10 ∧ ∀ v ∈ x.row, v.text.size ≤ 200 := by
  unfold fewP at h
  rw [Bool.and_eq_true, decide_eq_true_eq, List.all_eq_true] at h
  have h2 : ∀ x ∈ l, x.row.length ≤ 10 ∧ ∀ v ∈ x.row, v.text.size ≤ 200 := fun x hx => by
    have := h.2 x hx
    unfold okRow28 shortR at this
    rw [Bool.and_eq_true, Bool.and_eq_true, decide_eq_true_eq, List.all_eq_true] at this
    exact ⟨by omega, fun v hv => of_decide_eq_true (this.1.1 v hv)⟩
  exact ⟨h.1, fun x hx => Nat.le_trans (h2 x hx).1 (by decide), h2⟩

/-! ### Bytes -/
def deltaB (x : DeltaD) : ByteArray := intB x.time ++ textB (rowB x.row) ++ intB x.n
def deltasL (l : List DeltaD) : List UInt8 := l.flatMap fun x => (deltaB x).data.toList
def bytesL (l : List DeltaD) : List UInt8 := (natB (consP l).length).data.toList ++ deltasL (consP l)

theorem deltasL_app (a b : List DeltaD) : deltasL (a ++ b) = deltasL a ++ deltasL b := by simp [deltasL]
theorem deltasL_one (x : DeltaD) : deltasL [x] = (deltaB x).data.toList := by simp [deltasL]

/-- what Bytes can write -/
def Fit (x : DeltaD) : Prop := x.row.length ≤ 10000 ∧ ∀ v ∈ x.row, v.text.size ≤ 10000

theorem rowB_size {r : List ValD} (hi : ∀ v ∈ r, (I64 v.kind ∧ I64 v.num) ∧ v.text.size ≤ maxLen) (h1 : r.length ≤ 10000) (h2 : ∀ v ∈ r, v.text.size ≤ 10000) : (rowB r).size ≤ 200000000 := by
  have hv : ∀ v ∈ r, (I64 v.kind ∧ I64 v.num) ∧ v.text.size ≤ 10000 := fun v h => ⟨(hi v h).1, h2 v h⟩
  have hL := rowL_len hv (by decide) (by omega)
  have : r.length * (10000 + 64) ≤ 10000 * 10064 := Nat.mul_le_mul h1 (Nat.le_refl _)
  unfold rowB
  rw [size_list]; omega
theorem deltaB_size {x : DeltaD} (ht : I64 x.time) (hn : I64 x.n) (hi : ∀ v ∈ x.row, (I64 v.kind ∧ I64 v.num) ∧ v.text.size ≤ maxLen) (h : Fit x) : (deltaB x).size ≤ 200000100 := by
  have h1 := intB_size ht
  have h2 := intB_size hn
  have h3 := rowB_size hi h.1 h.2
  have h4 := textB_size (s := rowB x.row) (by omega)
  unfold deltaB
  rw [size_app, size_app]; omega

theorem Bytes28_in {Φ : PW} [Stable Φ] (p : Option Addr) (cap : Nat) (l : List DeltaD) (hT : l ≠ [] → ∀ M w, Φ M w → TabI M w) (hΦ : ∀ M w, Φ M w → Sl M w p l) (hlen : l.length ≤ 400) (hfit : ∀ x ∈ l, Fit x) :
    GivesIn Φ Tryz.prog F.delta_Bytes #[.slice p l.length cap] (.string ⟨(bytesL l).toArray⟩) := by
  have hrow : ∀ x ∈ l, x.row.length ≤ 1000000 := fun x hx => Nat.le_trans (hfit x hx).1 (by decide)
  refine gives_in (Bdelta_Bytes_run p l.length cap) fun W R => ?_
  refine fun w G cx => (Consolidate_sl p cap l hΦ (by omega) hrow).use cx fun p1 c1 w h1 h2 cx => ?_
  have hcfit : ∀ x ∈ consP l, x.row.length ≤ 10000 ∧ ∀ v ∈ x.row, v.text.size ≤ 10000 := consP_row (P := fun r => r.length ≤ 10000 ∧ ∀ v ∈ r, v.text.size ≤ 10000) hfit
  have hcl := consP_len l
  have hcT : consP l ≠ [] → ∀ M w, Φ M w → TabI M w := fun h => hT fun e => h (by rw [e]; rfl)
  unfold bytesL
  obtain ⟨c, hc⟩ : ∃ c, consP l = c := ⟨_, rfl⟩
  rw [hc] at cx h1 hcl hcfit hcT ⊢
  have hTn : Dec (fun M w => (Φ M w ∧ Sl M w p1 c)) (c.length : Int) := by
    cases c with
    | nil => exact .inr ⟨0, by decide, rfl⟩
    | cons x r => exact .inl ⟨fun M w h => hcT (by simp) M w h.1, by unfold I64; omega⟩
  obtain ⟨g, o, cs, hp, cx⟩ := cx.pin cx.phi.2
  have hcs : ∀ j, (hj : j < c.length) → ∃ p q, cs.getD j [] = c[j].cells p q ∧ c[j].row.length ≤ q ∧ q ≤ maxLen ∧ I64 c[j].time ∧ I64 c[j].n := fun j hj => by
    obtain ⟨p, c, h1, h2, h3, h4, h5, _⟩ := pin_delta cx.phi.2 hj
    exact ⟨p, c, h1, h2, h3, h4, h5⟩
  have hI : ∀ j, (hj : j < c.length) → ∀ v ∈ c[j].row, (I64 v.kind ∧ I64 v.num) ∧ v.text.size ≤ maxLen := fun j hj => by
    obtain ⟨q, qc, he, _⟩ := hcs j hj
    exact sl_i64 (pin_row cx.phi.2 hj he)
  have hlenL : ∀ i, i ≤ c.length → (deltasL (c.take i)).length ≤ i * 200000100 := by
    intro i
    induction i with
    | zero => intro _; simp [deltasL]
    | succ i ih =>
      intro hi
      have ih := ih (by omega)
      obtain ⟨_, _, _, _, _, ht, hn⟩ := hcs i (by omega)
      have := deltaB_size ht hn (hI i (by omega)) (hcfit c[i] (List.getElem_mem _))
      rw [List.take_succ_eq_append_getElem (by omega), deltasL_app, deltasL_one, List.length_append, list_size, Nat.add_mul]
      omega
  refine ⟨p1, _, c1, rfl, R, fun M w => (Φ M w ∧ Sl M w p1 c) ∧ Pin g o cs c M w, inferInstance, cx, ?_⟩
  clear cx
  have hst : Stable (fun M w => (Φ M w ∧ Sl M w p1 c) ∧ Pin g o cs c M w) := inferInstance
  intro b w G cx
  have hnum : GivesIn (fun M w => (Φ M w ∧ Sl M w p1 c) ∧ Pin g o cs c M w) Tryz.prog F.wire_Num #[.int .i64 (c.length : Int)] (.string (natB c.length)) := Num_in (by
    rcases hTn with ⟨h1, h2⟩ | h
    · exact .inl ⟨fun M w h => h1 M w h.1, h2⟩
    · exact .inr h)
  have hnat := natB_size (n := (c.length : Int)) (by unfold I64; omega)
  refine hnum.use cx fun w cx => ⟨_, rfl, .blk b [.pointer none, .slice none 0 0] 44 :: R, _, hst, cx, fun w G cx => ?_⟩
  refine WriteString_use (natB c.length) Bd.nil (Bd.fresh cx) (by simp only [List.length_nil]; omega) fun R1 w hB cx => ⟨_, _, rfl, R1 ++ R, _, hst, by rw [List.append_assoc]; exact cx, ?_⟩
  rw [List.nil_append] at hB
  clear cx
  refine exI_mk (fun iI R' Φ' k => ∃ (i : Nat) (Q : List Own), iI = i ∧ i ≤ c.length ∧ BdT b ((natB c.length).data.toList ++ deltasL (c.take i)) Q ∧ R' = Q ++ R ∧ Φ' = (fun M w => (Φ M w ∧ Sl M w p1 c) ∧ Pin g o cs c M w) ∧ k = c.length - i) ⟨⟨_, _, _, hst, fun w G cx => cx, 0, R1, rfl, Nat.zero_le _, by rw [List.take_zero, show deltasL [] = [] from rfl, List.append_nil]; exact hB, rfl, rfl, rfl⟩, ?_⟩
  rintro iI R2 Φ2 k _ ⟨i, Q, rfl, hi, hQ, rfl, rfl, rfl⟩
  refine Br.intro (fun hlt => ?_) (fun hge => fun w G cx => ?_)
  · have hlt : i < c.length := by have := of_decide_eq_true hlt; omega
    obtain ⟨q, qc, he, g1, g2, ht, hn⟩ := hcs i hlt
    have hT2 : ∀ M w, ((Φ M w ∧ Sl M w p1 c) ∧ Pin g o cs c M w) → TabI M w := fun M w h => hcT (fun e => by rw [e] at hlt; exact absurd hlt (by simp)) M w h.1.1
    have hf := hcfit c[i] (List.getElem_mem hlt)
    have hrs := rowB_size (hI i hlt) hf.1 hf.2
    have s1 := intB_size ht
    have s2 := intB_size hn
    have s3 := textB_size (s := rowB c[i].row) (by omega)
    have hsz := deltaB_size ht hn (hI i hlt) hf
    have hLi := hlenL i hi
    have hstep : deltasL (c.take (i + 1)) = deltasL (c.take i) ++ (deltaB c[i]).data.toList := by rw [List.take_succ_eq_append_getElem hlt, deltasL_app, deltasL_one]
    refine ⟨by omega, ptrK_intro g o (hp (by omega)) fun w G cx => ⟨c[i].time, q, c[i].row.length, qc, c[i].n, by rw [Int.toNat_natCast]; exact pin_rowAt cx.phi.2 hlt he, fun _ => ⟨Q ++ R, _, hst, fun w G cx => cx, fun w G cx => (Int_in (.inl ⟨hT2, ht⟩)).toS cx ⟨fun w G cx => cx, fun w G cx => (RowBytes_in q qc c[i].row hT2 (fun M w h => pin_row h.2 hlt he) (by omega) hf.2).toS cx ⟨fun w G cx => cx, fun w G cx => (Text_in (.inl ⟨hT2, by unfold I64; omega⟩) (by omega)).toS cx
      ⟨fun w G cx => cx, by show (intB c[i].time).size + (textB (rowB c[i].row)).size ≤ _; omega, fun w G cx => (Int_in (.inl ⟨hT2, hn⟩)).toS cx ⟨fun w G cx => cx, by show (intB c[i].time ++ textB (rowB c[i].row)).size + (intB c[i].n).size ≤ _; rw [size_app]; omega, fun w G cx => ?_⟩⟩⟩⟩⟩⟩⟩
    have hQl : ((natB c.length).data.toList ++ deltasL (c.take i)).length + (deltaB c[i]).size ≤ 100000000000 := by
      rw [List.length_append, list_size]
      have : i * 200000100 ≤ 400 * 200000100 := Nat.mul_le_mul_right _ (by omega)
      omega
    refine WriteString_use (deltaB c[i]) hQ (cx.re (List.append_assoc _ _ _)) hQl fun Q' w hQ' cx => ⟨_, _, rfl, Q' ++ R, _, hst, by rw [List.append_assoc]; exact cx, by unfold I64; omega, _, _, c.length - (i + 1), hst, fun w G cx => cx, ⟨i + 1, Q', by omega, hlt, ?_, rfl, rfl, rfl⟩, by omega⟩
    rw [hstep, ← List.append_assoc]; exact hQ'
  · have hge : i = c.length := by have := of_decide_eq_false hge; omega
    subst hge
    rw [List.take_length] at hQ
    exact String_use hQ (cx.re (List.append_assoc _ _ _)) fun w cx => ⟨_, rfl, R, _, hst, cx, fun w G cx => ⟨rfl, cx.left.weak fun M w h => h.1.1⟩⟩

/-! ### with answers that are known -/
theorem EqualV_in {Φ : PW} [Stable Φ] {p : Option Addr} {cap : Nat} {a : List DeltaD} {q : Option Addr} {cap2 : Nat} {b : List DeltaD} (v : a = b) [hΦ : Has Φ (fun M w => Sl M w p a)] [hΨ : Has Φ (fun M w => Sl M w q b)] (hlen : a.length ≤ 1000000) :
    GivesIn Φ Tryz.prog F.errataref28_Equal #[.slice p a.length cap, .slice q b.length cap2] (.bool true) := by
  have h := Equal_in p cap a q cap2 b hΦ.go hΨ.go (by omega)
  rwa [decide_eq_true v] at h
theorem AddH {Φ : PW} [Stable Φ] {p : Option Addr} {cap : Nat} {a : List DeltaD} {q : Option Addr} {cap2 : Nat} {b : List DeltaD} [hΦ : Has Φ (fun M w => Sl M w p a)] [hΨ : Has Φ (fun M w => Sl M w q b)] (h1 : a.length ≤ cap) (h2 : cap ≤ maxLen) (h3 : b.length ≤ cap2) (h4 : cap2 ≤ maxLen)
    (ha : a.length ≤ 400000) (hb : b.length ≤ 400000) (hra : Rows1 a) (hrb : Rows1 b) : GivesSl Φ Tryz.prog F.delta_Add #[.slice p a.length cap, .slice q b.length cap2] (addP a b) id := Add_sl p cap a q cap2 b hΦ.go hΨ.go h1 h2 h3 h4 ha hb hra hrb
theorem ConH {Φ : PW} [Stable Φ] {p : Option Addr} {cap : Nat} {a : List DeltaD} [hΦ : Has Φ (fun M w => Sl M w p a)] (ha : a.length ≤ 1000000) (hra : Rows1 a) : GivesSl Φ Tryz.prog F.delta_Consolidate #[.slice p a.length cap] (consP a) id := Consolidate_sl p cap a hΦ.go ha hra
theorem UptoH {Φ : PW} [Stable Φ] {p : Option Addr} {cap : Nat} {a : List DeltaD} {t : Int} [hΦ : Has Φ (fun M w => Sl M w p a)] (ha : a.length ≤ 1000000) (hra : Rows1 a) : GivesSl Φ Tryz.prog F.delta_Upto #[.slice p a.length cap, .int .i64 t] (uptoP a t) id := Upto_sl p cap a t hΦ.go ha hra
theorem AfterH {Φ : PW} [Stable Φ] {p : Option Addr} {cap : Nat} {a : List DeltaD} {t : Int} [hΦ : Has Φ (fun M w => Sl M w p a)] (ha : a.length ≤ 1000000) (hra : Rows1 a) : GivesSl Φ Tryz.prog F.delta_After #[.slice p a.length cap, .int .i64 t] (afterP a t) id := After_sl p cap a t hΦ.go ha hra
theorem FindH {Φ : PW} [Stable Φ] {p : Option Addr} {cap : Nat} {a : List DeltaD} {t : Int} {q : Option Addr} {cap2 : Nat} {r : List ValD} [hΦ : Has Φ (fun M w => Sl M w p a)] [hΨ : Has Φ (fun M w => Sl M w q r)] (ha : a.length ≤ 1000000) :
    GivesIn Φ Tryz.prog F.delta_Find #[.slice p a.length cap, .int .i64 t, .slice q r.length cap2] (.int .i64 (findP a (t, r))) := Find_in p cap a t q cap2 r hΦ.go hΨ.go (by omega)

/-! ### small -/
abbrev v7 : List ValD := [⟨0, 7, ByteArray.mk #[]⟩]
abbrev sA : List DeltaD := [⟨3, v7, 1⟩]
abbrev sB : List DeltaD := [⟨3, v7, -1⟩]
theorem sAA : addP sA sA = [⟨3, v7, 2⟩] := by decide
theorem sAB : addP sA sB = [] := by decide
theorem sU : uptoP sA 2 = [] := by decide
theorem sF : afterP sA 2 = sA := by decide
theorem sFind : findP [⟨3, v7, 2⟩] (3, v7) = 2 := by decide
theorem sRow : Rows1 sA := by decide
theorem sRowB : Rows1 sB := by decide

theorem v7_rep {M : List Nat} {w : World} : Gv.rep M w [.int .i64 0, .int .i64 7, .string (ByteArray.mk #[])] (⟨0, 7, ByteArray.mk #[]⟩ : ValD) :=
  ⟨[.int .i64 0], [.int .i64 7, .string (ByteArray.mk #[])], rfl, ⟨rfl, by show I64 0; unfold I64; omega⟩, [.int .i64 7], [.string (ByteArray.mk #[])], rfl, ⟨rfl, by show I64 7; unfold I64; omega⟩, rfl, by decide⟩

theorem s_rep {M : List Nat} {w : World} {k : Nat} {n : Int} (hn : I64 n) (h : Sl M w (some ⟨k, 0, none⟩) v7) : Gv.rep M w [.int .i64 3, .slice (some ⟨k, 0, none⟩) 1 1, .int .i64 n] (⟨3, v7, n⟩ : DeltaD) :=
  rep_delta (x := ⟨3, v7, n⟩) (Nat.le_refl 1) (by decide) (by unfold I64; dsimp only; omega) hn h

theorem bytes_nil : (0 : Int) < ((ByteArray.mk (bytesL []).toArray).size : Int) := by
  have h := intB_size (n := 0) (by unfold I64; omega)
  have e : bytesL [] = (intB 0).data.toList := by
    show (natB 0).data.toList ++ [] = _
    rw [List.append_nil]; rfl
  rw [size_list, e, list_size]; omega

set_option maxHeartbeats 1000000 in
theorem small28_g : Gives Tryz.prog F.erratalaw28_small #[] (.bool true) := by
  refine gives_of (Berratalaw28_small_run) fun W R Φ hs => ?_
  intro k0 k1 k2 k3 w G cx
  have c1 : Ctx W w (.blk k0 [.int .i64 0, .int .i64 7, .string (ByteArray.mk #[])] 33 :: .blk k2 [.int .i64 0, .int .i64 7, .string (ByteArray.mk #[])] 33 :: .blk k1 [.int .i64 3, .slice (some ⟨k0, 0, none⟩) 1 1, .int .i64 1] 36 :: .blk k3 [.int .i64 3, .slice (some ⟨k2, 0, none⟩) 1 1, .int .i64 (-1)] 36 :: (R ++ G)) Φ := cx.perm (by
    refine (List.perm_middle (l₁ := [_, _, _])).symm.symm.trans ?_
    refine List.Perm.cons _ ?_
    refine (List.perm_middle (l₁ := [_])).trans ?_
    refine List.Perm.cons _ ?_
    exact List.Perm.swap _ _ _)
  obtain ⟨c2, h0⟩ := c1.freezeBlk (α := ValD) (l := v7) (Elems.one v7_rep)
  have c2 : Ctx W w _ (fun M w => Φ M w ∧ Sl M w (some ⟨k0, 0, none⟩) v7) := c2.add h0
  obtain ⟨c3, h2⟩ := c2.freezeBlk (α := ValD) (l := v7) (Elems.one v7_rep)
  have c4 : Ctx W w _ (fun M w => (Φ M w ∧ Sl M w (some ⟨k0, 0, none⟩) v7) ∧ Sl M w (some ⟨k2, 0, none⟩) v7) := c3.add h2
  obtain ⟨c5, h1⟩ := c4.freezeBlk (α := DeltaD) (l := sA) (Elems.one (s_rep (by unfold I64; omega) c4.phi.1.2))
  have c6 : Ctx W w _ (fun M w => ((Φ M w ∧ Sl M w (some ⟨k0, 0, none⟩) v7) ∧ Sl M w (some ⟨k2, 0, none⟩) v7) ∧ Sl M w (some ⟨k1, 0, none⟩) sA) := c5.add h1
  obtain ⟨c7, h3⟩ := c6.freezeBlk (α := DeltaD) (l := sB) (Elems.one (s_rep (by unfold I64; omega) c6.phi.1.2))
  have c7 : Ctx W w _ (fun M w => (((Φ M w ∧ Sl M w (some ⟨k0, 0, none⟩) v7) ∧ Sl M w (some ⟨k2, 0, none⟩) v7) ∧ Sl M w (some ⟨k1, 0, none⟩) sA) ∧ Sl M w (some ⟨k3, 0, none⟩) sB) := c7.add h3
  have c8 : Ctx W w (R ++ G) (fun M w => (Φ M w ∧ Sl M w (some ⟨k1, 0, none⟩) sA) ∧ Sl M w (some ⟨k3, 0, none⟩) sB) := c7.weak fun M w h => ⟨⟨h.1.1.1.1, h.1.2⟩, h.2⟩
  clear cx c1 c2 c3 c4 c5 c6 c7 h0 h1 h2 h3
  have hst : Stable (fun M w => (Φ M w ∧ Sl M w (some ⟨k1, 0, none⟩) sA) ∧ Sl M w (some ⟨k3, 0, none⟩) sB) := inferInstance
  have a1 := AddH (Φ := fun M w => (Φ M w ∧ Sl M w (some ⟨k1, 0, none⟩) sA) ∧ Sl M w (some ⟨k3, 0, none⟩) sB) (p := some ⟨k1, 0, none⟩) (cap := 1) (a := sA) (q := some ⟨k1, 0, none⟩) (cap2 := 1) (b := sA) (by decide) (by decide) (by decide) (by decide) (by decide) (by decide) sRow sRow
  rw [sAA] at a1
  refine a1.to c8 fun p c g1 g2 hst2 => Br.intro (fun _ => ?_) (fun h => by exfalso; revert h; decide)
  clear c8
  intro k w G cx
  obtain ⟨cx, h0⟩ := cx.freezeBlk (α := ValD) (l := v7) (Elems.one v7_rep)
  have hst3 := hst2
  have hf := FindH (Φ := fun M w => (((Φ M w ∧ Sl M w (some ⟨k1, 0, none⟩) sA) ∧ Sl M w (some ⟨k3, 0, none⟩) sB) ∧ Sl M w p [(⟨3, v7, 2⟩ : DeltaD)]) ∧ Sl M w (some ⟨k, 0, none⟩) v7) (p := p) (cap := c) (a := [⟨3, v7, 2⟩]) (t := 3) (q := some ⟨k, 0, none⟩) (cap2 := 1) (r := v7) (by decide)
  rw [sFind] at hf
  have cx : Ctx W w (R ++ G) (fun M w => (((Φ M w ∧ Sl M w (some ⟨k1, 0, none⟩) sA) ∧ Sl M w (some ⟨k3, 0, none⟩) sB) ∧ Sl M w p [(⟨3, v7, 2⟩ : DeltaD)]) ∧ Sl M w (some ⟨k, 0, none⟩) v7) := cx.add h0
  refine hf.toI cx (Br.intro (fun _ => ?_) (fun h => by exfalso; revert h; decide))
  clear cx h0 a1
  have a2 := AddH (Φ := fun M w => (((Φ M w ∧ Sl M w (some ⟨k1, 0, none⟩) sA) ∧ Sl M w (some ⟨k3, 0, none⟩) sB) ∧ Sl M w p [(⟨3, v7, 2⟩ : DeltaD)]) ∧ Sl M w (some ⟨k, 0, none⟩) v7) (p := some ⟨k1, 0, none⟩) (cap := 1) (a := sA) (q := some ⟨k3, 0, none⟩) (cap2 := 1) (b := sB) (by decide) (by decide) (by decide) (by decide) (by decide) (by decide) sRow sRowB
  rw [sAB] at a2
  refine fun w G cx => a2.toW (Ψ := fun M w => Φ M w ∧ Sl M w (some ⟨k1, 0, none⟩) sA) cx fun p2 c2 _ _ _ => Br.intro (fun _ => ?_) (fun h => by exfalso; revert h; decide)
  have a3 := UptoH (Φ := fun M w => (Φ M w ∧ Sl M w (some ⟨k1, 0, none⟩) sA) ∧ Sl M w p2 ([] : List DeltaD)) (p := some ⟨k1, 0, none⟩) (cap := 1) (a := sA) (t := 2) (by decide) sRow
  rw [sU] at a3
  refine fun w G cx => a3.toW (Ψ := fun M w => Φ M w ∧ Sl M w (some ⟨k1, 0, none⟩) sA) cx fun p3 c3 _ _ _ => Br.intro (fun _ => ?_) (fun h => by exfalso; revert h; decide)
  have a4 := AfterH (Φ := fun M w => (Φ M w ∧ Sl M w (some ⟨k1, 0, none⟩) sA) ∧ Sl M w p3 ([] : List DeltaD)) (p := some ⟨k1, 0, none⟩) (cap := 1) (a := sA) (t := 2) (by decide) sRow
  rw [sF] at a4
  refine fun w G cx => a4.toW (Ψ := fun M w => Φ M w ∧ Sl M w (some ⟨k1, 0, none⟩) sA) cx fun p4 c4 _ _ _ => ?_
  have e1 := EqualV_in (Φ := fun M w => (Φ M w ∧ Sl M w (some ⟨k1, 0, none⟩) sA) ∧ Sl M w p4 sA) (p := p4) (cap := c4) (a := sA) (q := some ⟨k1, 0, none⟩) (cap2 := 1) (b := sA) rfl (by decide)
  refine fun w G cx => e1.toBW (Ψ := Φ) cx (Br.intro (fun _ => ?_) (fun h => by cases h))
  have hb := Bytes28_in (Φ := Φ) none 0 [] (fun h => absurd rfl h) (fun _ _ _ => Sl.nil) (by decide) (by simp)
  refine fun w G cx => hb.toS cx fun w G cx => ⟨?_, cx.left⟩
  rw [decide_eq_true (show (0 : Int) < ((ByteArray.mk (bytesL []).toArray).size : Int) from bytes_nil)]

end Go.Proofs.YtnapfhbibikbiaaGreatDoor
end

/-
  delta.Read: in plain Lean, and walked.
-/
section
set_option linter.unusedVariables false
set_option linter.unusedSimpArgs false
namespace Go.Proofs.YtnapfhbibikbiaaGreatDoor
open Go.Vc


/-! ### in plain Lean -/
def stepD (st : RdS) : Option (DeltaD × RdS) := (readRowP (stepT (rdInt st).2).1.data.toList).map fun r => (⟨(rdInt st).1, r, (rdInt (stepT (rdInt st).2).2).1⟩, (rdInt (stepT (rdInt st).2).2).2)
theorem stepD_none {st : RdS} (h : readRowP (stepT (rdInt st).2).1.data.toList = none) : stepD st = none := by unfold stepD; rw [h]; rfl
theorem stepD_some {st : RdS} {r : List ValD} (h : readRowP (stepT (rdInt st).2).1.data.toList = some r) : stepD st = some (⟨(rdInt st).1, r, (rdInt (stepT (rdInt st).2).2).1⟩, (rdInt (stepT (rdInt st).2).2).2) := by unfold stepD; rw [h]; rfl
theorem stepD_inv {st st' : RdS} {x : DeltaD} (h : stepD st = some (x, st')) : ∃ r, readRowP (stepT (rdInt st).2).1.data.toList = some r ∧ x = ⟨(rdInt st).1, r, (rdInt (stepT (rdInt st).2).2).1⟩ ∧ st' = (rdInt (stepT (rdInt st).2).2).2 := by
  unfold stepD at h
  obtain ⟨r, h1, h2⟩ := Option.map_eq_some_iff.1 h
  injection h2 with h3 h4
  exact ⟨r, h1, h3.symm, h4.symm⟩
attribute [irreducible] stepD
def readLoop : Nat → RdS → List DeltaD → Option (List DeltaD)
  | 0, _, acc => some acc
  | n + 1, st, acc => (stepD st).bind fun y => readLoop n y.2 (acc ++ [y.1])
theorem readLoop_z (st : RdS) (acc : List DeltaD) : readLoop 0 st acc = some acc := rfl
theorem readLoop_n {n : Nat} {st : RdS} {acc : List DeltaD} (h : stepD st = none) : readLoop (n + 1) st acc = none := by
  show (stepD st).bind _ = none
  rw [h]; rfl
theorem readLoop_s {n : Nat} {st st' : RdS} {acc : List DeltaD} {x : DeltaD} (h : stepD st = some (x, st')) : readLoop (n + 1) st acc = readLoop n st' (acc ++ [x]) := by
  show (stepD st).bind _ = _
  rw [h]; rfl
def readAll (l : List UInt8) : Option (List DeltaD) := readLoop (min (rdNat (l, false)).1 l.length).toNat (rdNat (l, false)).2 []
def readP (l : List UInt8) : Option (List DeltaD) := match readAll l with
  | some out => if consolidated out && decide (bytesL out = l) then some out else none
  | none => none

theorem deltaB_list (x : DeltaD) : (deltaB x).data.toList = (intB x.time).data.toList ++ ((textB (rowB x.row)).data.toList ++ (intB x.n).data.toList) := by
  unfold deltaB
  simp [ByteArray.data_append]
theorem delta_read {x : DeltaD} {t : List UInt8} (h1 : I64 x.time) (h2 : I64 x.n) (h3 : ∀ v ∈ x.row, FitV v) (h4 : x.row.length ≤ 9223372036854775807) (h5 : (rowB x.row).size ≤ 9223372036854775807) : stepD ((deltaB x).data.toList ++ t, false) = some (x, (t, false)) := by
  have e1 : rdInt ((deltaB x).data.toList ++ t, false) = (x.time, ((textB (rowB x.row)).data.toList ++ ((intB x.n).data.toList ++ t), false)) := by
    rw [deltaB_list, List.append_assoc, int_read h1, List.append_assoc]
  have e2 := text_read (r := (intB x.n).data.toList ++ t) h5
  have e3 : readRowP (stepT (rdInt ((deltaB x).data.toList ++ t, false)).2).1.data.toList = some x.row := by
    rw [e1]
    show readRowP (stepT ((textB (rowB x.row)).data.toList ++ ((intB x.n).data.toList ++ t), false)).1.data.toList = some x.row
    rw [e2]
    exact row_read h3 h4
  rw [stepD_some e3, e1]
  simp only
  rw [e2]
  simp only
  rw [int_read h2]
theorem deltas_read : ∀ (c : List DeltaD) (acc : List DeltaD) (t : List UInt8), (∀ x ∈ c, (I64 x.time ∧ I64 x.n) ∧ (∀ v ∈ x.row, FitV v) ∧ x.row.length ≤ 9223372036854775807 ∧ (rowB x.row).size ≤ 9223372036854775807) → readLoop c.length (deltasL c ++ t, false) acc = some (acc ++ c)
  | [], acc, t, _ => by rw [List.append_nil]; rfl
  | x :: c, acc, t, h => by
    obtain ⟨⟨h1, h2⟩, h3, h4, h5⟩ := h x (by simp)
    have e : deltasL (x :: c) ++ t = (deltaB x).data.toList ++ (deltasL c ++ t) := by simp [deltasL]
    rw [e, List.length_cons, readLoop_s (delta_read h1 h2 h3 h4 h5)]
    rw [deltas_read c _ t fun y hy => h y (by simp [hy]), List.append_assoc]
    rfl
theorem deltaB_pos {x : DeltaD} (h : I64 x.time) : 1 ≤ (deltaB x).data.toList.length := by
  have h1 := intB_size h
  rw [list_size]
  unfold deltaB
  rw [size_app, size_app]; omega
theorem deltasL_pos : ∀ {c : List DeltaD}, (∀ x ∈ c, I64 x.time) → c.length ≤ (deltasL c).length
  | [], _ => Nat.zero_le _
  | x :: c, h => by
    have h1 := deltaB_pos (h x (by simp))
    have h2 := deltasL_pos (c := c) fun y hy => h y (by simp [hy])
    have e : deltasL (x :: c) = (deltaB x).data.toList ++ deltasL c := by simp [deltasL]
    rw [e, List.length_append, List.length_cons]; omega
def FitD (x : DeltaD) : Prop := (I64 x.time ∧ I64 x.n) ∧ (∀ v ∈ x.row, FitV v) ∧ x.row.length ≤ 9223372036854775807 ∧ (rowB x.row).size ≤ 9223372036854775807
theorem all_read {a : List DeltaD} (h : ∀ x ∈ consP a, FitD x) (hl : (consP a).length ≤ 1000000000) : readAll (bytesL a) = some (consP a) := by
  have h1 := deltas_read (consP a) [] [] h
  rw [List.append_nil, List.nil_append] at h1
  have h2 := deltasL_pos fun x hx => (h x hx).1.1
  unfold readAll bytesL
  rw [nat_read (by omega)]
  simp only
  rw [show (min ((consP a).length : Int) (((natB (consP a).length).data.toList ++ deltasL (consP a)).length : Int)).toNat = (consP a).length by rw [List.length_append]; omega]
  exact h1
theorem bytesL_cons (a : List DeltaD) : bytesL (consP a) = bytesL a := by
  unfold bytesL
  rw [consP_cons]
theorem read_bytes {a : List DeltaD} (h : ∀ x ∈ consP a, FitD x) (hl : (consP a).length ≤ 1000000000) : readP (bytesL a) = some (consP a) := by
  unfold readP
  rw [all_read h hl]
  simp only
  rw [norm_cons (consP_norm a).1, bytesL_cons, decide_eq_true rfl]
  rfl
/-- what is read is the encoding's own -/
theorem read_is {l : List UInt8} {out : List DeltaD} (h : readP l = some out) : readAll l = some out ∧ consolidated out = true ∧ bytesL out = l := by
  unfold readP at h
  split at h
  · rename_i o ho
    split at h
    · rename_i hc
      cases h
      rw [Bool.and_eq_true] at hc
      exact ⟨ho, hc.1, of_decide_eq_true hc.2⟩
    · cases h
  · cases h

/-! lengths -/
theorem readRow_nil : readRowP [] = none := by
  have e : rdNat ([], false) = (0, ([], true)) := by
    refine stepN_none ?_
    unfold numP
    rw [show Lib.indexByte (List.take 21 (([], false) : RdS).1) 59 = -1 from rfl]
    rfl
  unfold readRowP
  rw [e]
  rfl
/-- either the number was eaten whole, or all is lost -/
theorem rdInt_eats (st : RdS) : (rdInt st).2 = ([], true) ∨ (rdInt st).2.1.length + 2 ≤ st.1.length := by
  unfold rdInt stepN
  split
  · rename_i n r h
    obtain ⟨⟨h1, _⟩, h2⟩ := (numP_iff (.inr (.inl rfl))).1 h
    have := itoa_len h1
    right
    rw [h2, List.length_append, List.length_cons]
    simp only; omega
  · exact .inl rfl
theorem stepT_eats (st : RdS) : (stepT st).1.data.toList = [] ∨ (stepT st).2.1.length + 3 ≤ st.1.length := by
  unfold stepT
  simp only
  split
  · exact .inl rfl
  · rename_i h
    by_cases hc : (stepC 44 ((stepN 58 0 st).2.1.drop (stepN 58 0 st).1.toNat, (stepN 58 0 st).2.2)).2 = true
    · left
      rw [if_pos hc]
    · right
      simp only
      unfold stepN at hc ⊢
      split at hc
      · rename_i n r hn
        obtain ⟨⟨h1, _⟩, h2⟩ := (numP_iff (.inl rfl)).1 hn
        have := itoa_len h1
        simp only at hc ⊢
        unfold stepC at hc ⊢
        simp only at hc ⊢
        split at hc
        · exact absurd rfl hc
        · rename_i x r2 hx
          have hlen := congrArg List.length hx
          rw [List.length_drop, List.length_cons] at hlen
          split at hc
          · rename_i hxe
            rw [if_pos hxe, h2, List.length_append, List.length_cons]
            simp only; omega
          · exact absurd rfl hc
      · exfalso
        apply hc
        rfl
theorem stepD_eats {st st' : RdS} {x : DeltaD} (h : stepD st = some (x, st')) : st'.1.length + 5 ≤ st.1.length ∧ x.row.length ≤ st.1.length ∧ ∀ v ∈ x.row, v.text.size ≤ st.1.length := by
  obtain ⟨r, hr, rfl, rfl⟩ := stepD_inv h
  obtain ⟨f1, f2⟩ := readRow_fit hr
  rcases stepT_eats (rdInt st).2 with e | e
  · rw [e, readRow_nil] at hr
    cases hr
  · rcases rdInt_eats st with e2 | e2
    · rw [e2, List.length_nil] at e
      omega
    · have a : (rdInt (stepT (rdInt st).2).2).2.1.length ≤ (stepT (rdInt st).2).2.1.length := stepN_len 59 (-9223372036854775808) _
      have b := (stepT_len (rdInt st).2).2
      rw [list_size] at f1 f2
      refine ⟨?_, ?_, fun v hv => ?_⟩
      · omega
      · show r.length ≤ _
        omega
      · have := f2 v hv
        omega
theorem readLoop_fit {L : Nat} : ∀ (n : Nat) (st : RdS) (acc out : List DeltaD), readLoop n st acc = some out → acc.length * 5 + st.1.length ≤ L → (∀ x ∈ acc, x.row.length ≤ L ∧ ∀ v ∈ x.row, v.text.size ≤ L) → out.length * 5 ≤ L ∧ ∀ x ∈ out, x.row.length ≤ L ∧ ∀ v ∈ x.row, v.text.size ≤ L
  | 0, st, acc, out, h, h1, h2 => by
    rw [readLoop_z] at h
    cases h
    exact ⟨by omega, h2⟩
  | n + 1, st, acc, out, h, h1, h2 => by
    cases hs : stepD st with
    | none =>
      rw [readLoop_n hs] at h
      cases h
    | some y =>
      obtain ⟨x, st'⟩ := y
      rw [readLoop_s hs] at h
      obtain ⟨a, b, c⟩ := stepD_eats hs
      refine readLoop_fit n st' _ out h (by rw [List.length_append, List.length_singleton]; omega) fun y hy => ?_
      rcases List.mem_append.1 hy with hy | hy
      · exact h2 y hy
      · rw [List.mem_singleton.1 hy]
        exact ⟨by omega, fun v hv => by have := c v hv; omega⟩
theorem readAll_fit {l : List UInt8} {out : List DeltaD} (h : readAll l = some out) : out.length * 5 ≤ l.length ∧ ∀ x ∈ out, x.row.length ≤ l.length ∧ ∀ v ∈ x.row, v.text.size ≤ l.length := by
  have hn : (rdNat (l, false)).2.1.length ≤ l.length := stepN_len 59 0 (l, false)
  exact readLoop_fit _ _ _ _ h (by simp only [List.length_nil]; omega) (by simp)

/-! ### walked -/
section
variable {W w : World} {R G S : List Own} {Φ : PW} {b : Nat} {st : RdS}

set_option maxHeartbeats 2000000 in
theorem Read_use [Stable Φ] (hΦ : ∀ M w, Φ M w → NumI M w) (l : List UInt8) (hl : l.length ≤ 10000000) (hfit : ∀ out, readAll l = some out → out.length ≤ 400 ∧ ∀ x ∈ out, Fit x) (c : Ctx W w S Φ) {K : Ending → World → Prop}
    (h0 : readP l = none → ∀ w', Ctx W w' S Φ → K (.returned (.tuple #[.slice none 0 0, .bool false])) w')
    (h1 : ∀ r p cap w', readP l = some r → r.length ≤ cap → cap ≤ maxLen → Ctx W w' S (fun M w => Φ M w ∧ Sl M w p r) → K (.returned (.tuple #[.slice p r.length cap, .bool true])) w') :
    Calls Tryz.prog F.delta_Read #[.string (bs l)] w K := by
  refine (Bdelta_Read_run (bs l) (J := fun u w' => K (.returned u) w') (R := S) c ?_).mono fun e w' ⟨v, he, hj⟩ => by rw [he]; exact hj
  clear c
  refine fun w G cx => Open_use l cx fun b w cx => ⟨_, rfl, rd b (l, false) :: S, Φ, inferInstance, cx, ?_⟩
  clear cx
  refine fun w G cx => RNum_to (S := S) hΦ (by simp only; omega) cx ?_
  clear cx
  have hlen : (rdNat (l, false)).2.1.length ≤ l.length := stepN_len 59 0 (l, false)
  have hnn : 0 ≤ (rdNat (l, false)).1 ∧ (rdNat (l, false)).1 ≤ 9223372036854775807 := stepN_nonneg (e := 59) (.inr (.inl rfl)) (l, false)
  have hall : readAll l = readLoop (min (rdNat (l, false)).1 l.length).toNat (rdNat (l, false)).2 [] := rfl
  have hrow : readP l = match readAll l with
    | some out => if consolidated out && decide (bytesL out = l) then some out else none
    | none => none := rfl
  obtain ⟨⟨n0, st0⟩, hst⟩ : ∃ x, rdNat (l, false) = x := ⟨_, rfl⟩
  rw [hst] at hlen hnn hall ⊢
  simp only at hlen hnn hall ⊢
  obtain ⟨m0, hm0⟩ : ∃ m, (min n0 (l.length : Int)).toNat = m := ⟨_, rfl⟩
  rw [hm0] at hall
  have hsz : (bs l).size = l.length := bs_size l
  have hml : m0 ≤ l.length := by omega
  refine exI_mk (fun p n c i R' Φ' k => ∃ (j : Nat) (st : RdS) (acc : List DeltaD) (ds : List Value), n = acc.length ∧ R' = .buf p n c ds 36 3 :: rd b st :: S ∧ Φ' = (fun M w => Φ M w ∧ Elems M w ds acc) ∧ k = m0 - j ∧ i = j ∧ j ≤ m0 ∧ st.1.length ≤ l.length ∧ acc.length ≤ j ∧ readAll l = readLoop (m0 - j) st acc)
    ⟨⟨.buf none 0 0 [] 36 3 :: rd b st0 :: S, fun M w => Φ M w ∧ Elems M w [] ([] : List DeltaD), _, inferInstance, fun w G cx => (cx.nobuf 36 3).weak fun M w h => ⟨h, Elems.nil⟩, 0, st0, [], [], rfl, rfl, rfl, rfl, rfl, Nat.zero_le _, hlen, Nat.le_refl _, hall⟩, ?_⟩
  rintro p n c i R1 Φ1 k _ ⟨j, st, acc, ds, rfl, rfl, rfl, rfl, rfl, hj, hsl, haj, hrl⟩
  clear hall
  have hst1 : Stable (fun M w => Φ M w ∧ Elems M w ds acc) := inferInstance
  refine Br.intro (fun hlt => ?_) (fun hge => ?_)
  · have hlt := of_decide_eq_true hlt
    have hjm : j < m0 := by omega
    rw [show m0 - j = (m0 - (j + 1)) + 1 by omega] at hrl
    have q1 : (rdInt st).2.1.length ≤ st.1.length := stepN_len 59 (-9223372036854775808) st
    obtain ⟨q2, q3⟩ := stepT_len (rdInt st).2
    have q4 : (rdInt (stepT (rdInt st).2).2).2.1.length ≤ (stepT (rdInt st).2).2.1.length := stepN_len 59 (-9223372036854775808) _
    have hi1 := rdInt_i64 st
    have hi2 := rdInt_i64 (stepT (rdInt st).2).2
    refine fun w G cx => RInt_to (S := .buf p acc.length c ds 36 3 :: S) (fun M w h => hΦ M w h.1) (by omega) cx.swap ?_
    refine fun _ w G cx => Text_to (S := .buf p acc.length c ds 36 3 :: S) (fun M w h => hΦ M w h.1) (by omega) cx ?_
    refine fun w G cx => ReadRowS_to (R := rd b (stepT (rdInt st).2).2 :: .buf p acc.length c ds 36 3 :: S) (fun M w h => hΦ M w h.1) (stepT (rdInt st).2).1 (by omega) cx (fun hn => ?_) (fun r q qc hr g1 g2 hst2 => ?_)
    · rw [readLoop_n (stepD_none hn)] at hrl
      refine Br.intro (fun _ => fun w G cx => h0 (by rw [hrow, hrl]) w (cx.left.drop1.drop1.weak fun M w h => h.1)) (fun h => by cases h)
    · refine Br.intro (fun h => by cases h) (fun _ => ?_)
      have hd : stepD st = some (⟨(rdInt st).1, r, (rdInt (stepT (rdInt st).2).2).1⟩, (rdInt (stepT (rdInt st).2).2).2) := stepD_some hr
      obtain ⟨x, hx⟩ : ∃ x : DeltaD, x = ⟨(rdInt st).1, r, (rdInt (stepT (rdInt st).2).2).1⟩ := ⟨_, rfl⟩
      rw [← hx] at hd
      rw [readLoop_s hd] at hrl
      refine fun w G cx => RInt_to (S := .buf p acc.length c ds 36 3 :: S) (fun M w h => hΦ M w h.1.1) (by omega) cx ?_
      refine fun bk w G cx => ?_
      have cx1 : Ctx W w (.blk bk (x.cells q qc) 36 :: .buf p acc.length c ds 36 3 :: (rd b (rdInt (stepT (rdInt st).2).2).2 :: S ++ G)) (fun M w => (Φ M w ∧ Elems M w ds acc) ∧ Sl M w q r) := by rw [hx]; exact cx.perm ((List.Perm.swap _ _ _).cons _)
      obtain ⟨p', cap', w', hrun, _, cx'⟩ := Ctx.app1 (P := Tryz.prog) (ts := 22) (ty := 22) (kb := #[false, false]) (size := 3) (bytes := 40) cx1 (by kernel_rfl) (by omega) rfl rfl (by omega) (by omega)
      have hst3 : Stable (fun M w => Φ M w ∧ Elems M w (ds ++ x.cells q qc) (acc ++ [x])) := inferInstance
      have hcx2 : Ctx W w' (.buf p' (acc ++ [x]).length cap' (ds ++ x.cells q qc) 36 3 :: rd b (rdInt (stepT (rdInt st).2).2).2 :: S ++ G) (fun M w => Φ M w ∧ Elems M w (ds ++ x.cells q qc) (acc ++ [x])) := by
        rw [List.length_append, List.length_singleton]
        exact cx'.weak fun M w h => ⟨h.1.1, h.1.2.snoc (rep_delta (x := x) (by rw [hx]; exact g1) g2 (by rw [hx]; exact hi1) (by rw [hx]; exact hi2) (by rw [hx]; exact h.2))⟩
      refine ⟨p', acc.length + 1, cap', w', hrun, _, _, hst3, hcx2, by unfold I64; omega, _, _, m0 - (j + 1), hst3, fun w G cx => cx, ⟨j + 1, _, acc ++ [x], _, by simp, by simp, rfl, rfl, by omega, by omega, by omega, by rw [List.length_append, List.length_singleton]; omega, hrl⟩, by omega⟩
  · have hge := of_decide_eq_false hge
    have hjm : m0 - j = 0 := by omega
    rw [hjm, readLoop_z] at hrl
    rw [hrl] at hrow
    simp only at hrow
    obtain ⟨fl, ff⟩ := hfit acc hrl
    have hst2 : Stable (fun M w => Φ M w ∧ Sl M w p acc) := inferInstance
    intro w G cx
    obtain ⟨cx3, hs, _, g1, g2⟩ := Ctx.freeze (α := DeltaD) cx.fst cx.phi.2
    refine (Consolidated_in (Φ := fun M w => Φ M w ∧ Sl M w p acc) p c acc (fun M w h => h.2) (by omega)).toB (R := rd b st :: S) (cx3.add hs) ?_
    clear cx cx3 hs
    refine Br.intro (fun hc => fun w G cx => h0 ?_ w (cx.left.drop1.weak fun M w h => h.1)) (fun hc => ?_)
    · have hc : consolidated acc = false := by simpa using hc
      rw [hrow, hc, if_neg (by simp)]
    · have hc : consolidated acc = true := by simpa using hc
      rw [hc, Bool.true_and] at hrow
      refine fun w G cx => (Bytes28_in (Φ := fun M w => Φ M w ∧ Sl M w p acc) p c acc (fun _ M w h => (hΦ M w h.1).1) (fun M w h => h.2) fl ff).toS (R := rd b st :: S) cx ?_
      refine Br.intro (fun hb => fun w G cx => h0 ?_ w (cx.left.drop1.weak fun M w h => h.1)) (fun hb => fun w G cx => h1 acc p c w ?_ g1 g2 cx.left.drop1)
      · have hb : bytesL acc ≠ l := fun e => of_decide_eq_true hb (by rw [e]; rfl)
        rw [hrow, decide_eq_false hb, if_neg (by simp)]
      · have hb : bytesL acc = l := bs_inj.1 (Decidable.not_not.1 (of_decide_eq_false hb))
        rw [hrow, decide_eq_true hb, if_pos rfl]

theorem Read_to [Stable Φ] (hΦ : ∀ M w, Φ M w → NumI M w) (l : List UInt8) (hl : l.length ≤ 10000000) (hfit : ∀ out, readAll l = some out → out.length ≤ 400 ∧ ∀ x ∈ out, Fit x) (c : Ctx W w (R ++ G) Φ) {K : Option Addr → Nat → Nat → Bool → List Own → PW → Prop}
    (h0 : readP l = none → K none 0 0 false R Φ)
    (h1 : ∀ r p cap, readP l = some r → r.length ≤ cap → cap ≤ maxLen → Stable (fun M w => Φ M w ∧ Sl M w p r) → K p r.length cap true R (fun M w => Φ M w ∧ Sl M w p r)) :
    Calls Tryz.prog F.delta_Read #[.string (bs l)] w fun e w' => ∃ p n c ok, e = .returned (.tuple #[.slice p n c, .bool ok]) ∧ ∃ R' Φ', Stable Φ' ∧ Ctx W w' (R' ++ G) Φ' ∧ K p n c ok R' Φ' :=
  Read_use hΦ l hl hfit c (fun h w' c => ⟨none, 0, 0, false, rfl, R, Φ, inferInstance, c, h0 h⟩) fun r p cap w' h g1 g2 c => ⟨p, r.length, cap, true, rfl, R, _, inferInstance, c, h1 r p cap h g1 g2 inferInstance⟩
end
end Go.Proofs.YtnapfhbibikbiaaGreatDoor
end

/-
  The law DeltaBytes, in plain Lean and walked.
-/
section
set_option linter.unusedVariables false
set_option linter.unusedSimpArgs false
namespace Go.Proofs.YtnapfhbibikbiaaGreatDoor
open Go.Vc


theorem cons_keys : ∀ {l : List DeltaD}, ∀ z ∈ consP l, ∃ y ∈ l, y.key = z.key
  | [], z, hz => by cases hz
  | x :: l, z, hz => by
    rcases insD_key x (consP l) z hz with h | ⟨y, hy, h⟩
    · exact ⟨x, by simp, h.symm⟩
    · obtain ⟨u, hu, he⟩ := cons_keys y hy
      exact ⟨u, by simp [hu], he.trans h⟩

/-- what is plain data has numbers of 64 bits -/
def Mach (l : List DeltaD) : Prop := ∀ x ∈ l, I64 x.time ∧ ∀ v ∈ x.row, (I64 v.kind ∧ I64 v.num) ∧ v.text.size ≤ maxLen
theorem sl_mach {M : List Nat} {w : World} {p : Option Addr} {l : List DeltaD} (h : Sl M w p l) : Mach l := fun x hx => by
  obtain ⟨i, hi, rfl⟩ := List.getElem_of_mem hx
  obtain ⟨_, _, _, _, _, _, hr⟩ := h i hi
  obtain ⟨_, _, _, _, _, ht, _, hs⟩ := delta_cells hr
  exact ⟨ht, sl_i64 hs⟩
theorem in_mach {Φ : PW} {f : FuncId} {args : Array Value} {v : Value} {p : Option Addr} {l : List DeltaD} (hΦ : ∀ M w, Φ M w → Sl M w p l) (h : Mach l → GivesIn Φ Tryz.prog f args v) : GivesIn Φ Tryz.prog f args v :=
  ⟨fun W w S c => (h (sl_mach (hΦ _ _ c.phi))).go W w S c⟩

/-- small enough for the law -/
def Small (l : List DeltaD) : Prop := l.length ≤ 100 ∧ ∀ x ∈ l, x.row.length ≤ 10 ∧ ∀ v ∈ x.row, v.text.size ≤ 200
theorem cons_small {a : List DeltaD} (h : Small a) : Small (consP a) := ⟨Nat.le_trans (consP_len a) h.1, consP_row (P := fun r => r.length ≤ 10 ∧ ∀ v ∈ r, v.text.size ≤ 200) h.2⟩
theorem cons_mach {a : List DeltaD} (h : Mach a) : Mach (consP a) := fun z hz => by
  obtain ⟨y, hy, he⟩ := cons_keys z hz
  have h1 := h y hy
  have e1 : y.time = z.time := congrArg Prod.fst he
  have e2 : y.row = z.row := congrArg Prod.snd he
  rw [← e1, ← e2]
  exact h1
theorem row_small {x : DeltaD} (h1 : x.row.length ≤ 10) (h2 : ∀ v ∈ x.row, v.text.size ≤ 200) (h3 : ∀ v ∈ x.row, (I64 v.kind ∧ I64 v.num) ∧ v.text.size ≤ maxLen) : (rowB x.row).size ≤ 2661 := by
  have h := rowL_len (m := 200) (r := x.row) (fun v hv => ⟨(h3 v hv).1, h2 v hv⟩) (by decide) (by omega)
  have : x.row.length * (200 + 64) ≤ 10 * (200 + 64) := Nat.mul_le_mul_right _ h1
  unfold rowB
  rw [size_list]; omega
theorem fits {a : List DeltaD} (h : Small a) (hm : Mach a) : ∀ x ∈ consP a, FitD x := fun x hx => by
  have h1 := (cons_small h).2 x hx
  have h2 := cons_mach hm x hx
  have h3 := row_small h1.1 h1.2 h2.2
  exact ⟨⟨h2.1, (consP_norm a).1.i64 x hx⟩, fun v hv => ⟨(h2.2 v hv).1, Nat.le_trans (h1.2 v hv) (by decide)⟩, Nat.le_trans h1.1 (by decide), Nat.le_trans h3 (by decide)⟩
theorem deltasL_size : ∀ {c : List DeltaD}, (∀ x ∈ c, (deltaB x).size ≤ 2725) → (deltasL c).length ≤ c.length * 2725
  | [], _ => by simp [deltasL]
  | x :: c, h => by
    have h1 := deltasL_size (c := c) fun y hy => h y (by simp [hy])
    have h2 := h x (by simp)
    have e : deltasL (x :: c) = (deltaB x).data.toList ++ deltasL c := by simp [deltasL]
    rw [e, List.length_append, list_size, List.length_cons, Nat.add_mul]
    omega
theorem bytesL_size {a : List DeltaD} (h : Small a) (hm : Mach a) : (bytesL a).length ≤ 10000000 := by
  have hs := cons_small h
  have h1 : ∀ x ∈ consP a, (deltaB x).size ≤ 2725 := fun x hx => by
    have h2 := fits h hm x hx
    have h3 := row_small (hs.2 x hx).1 (hs.2 x hx).2 (cons_mach hm x hx).2
    have a1 := intB_size h2.1.1
    have a2 := intB_size h2.1.2
    have a3 := textB_size (s := rowB x.row) h2.2.2.2
    unfold deltaB
    rw [size_app, size_app]; omega
  have h4 := deltasL_size h1
  have h5 := hs.1
  have h6 := natB_size (n := ((consP a).length : Int)) (by unfold I64; omega)
  unfold bytesL
  rw [List.length_append, list_size]
  omega
theorem small_fit {a : List DeltaD} (h : Small a) : ∀ x ∈ a, Fit x := fun x hx => ⟨Nat.le_trans (h.2 x hx).1 (by decide), fun v hv => Nat.le_trans ((h.2 x hx).2 v hv) (by decide)⟩

/-- encodings tell lists apart -/
theorem bytes_iff {a b : List DeltaD} (ha : Small a) (ma : Mach a) (hb : Small b) (mb : Mach b) : bs (bytesL a) = bs (bytesL b) ↔ consP a = consP b := by
  rw [bs_inj]
  constructor
  · intro h
    have h1 := read_bytes (fits ha ma) (Nat.le_trans (cons_small ha).1 (by decide))
    have h2 := read_bytes (fits hb mb) (Nat.le_trans (cons_small hb).1 (by decide))
    rw [h, h2] at h1
    exact (Option.some.inj h1).symm
  · intro h
    unfold bytesL
    rw [h]

section
variable {Φ : PW} {p q : Option Addr} {cap cap2 : Nat} {a b : List DeltaD}
theorem BytesH [Stable Φ] [hΦ : Has Φ (fun M w => Sl M w p a)] [hT : Has Φ NumI] (ha : a.length ≤ 400) (hf : ∀ x ∈ a, Fit x) : GivesIn Φ Tryz.prog F.delta_Bytes #[.slice p a.length cap] (.string (bs (bytesL a))) :=
  Bytes28_in p cap a (fun _ M w h => (hT.go M w h).1) hΦ.go ha hf
theorem SameH [Stable Φ] [hΦ : Has Φ (fun M w => Sl M w p a)] [hΨ : Has Φ (fun M w => Sl M w q b)] (ha : a.length ≤ 400000) (hb : b.length ≤ 400000) (hra : Rows1 a) (hrb : Rows1 b) :
    GivesIn Φ Tryz.prog F.delta_Same #[.slice p a.length cap, .slice q b.length cap2] (.bool (decide (consP a = consP b))) := Same_in p cap a q cap2 b hΦ.go hΨ.go ha hb hra hrb
theorem CondH [Stable Φ] [hΦ : Has Φ (fun M w => Sl M w p a)] (ha : a.length ≤ 400000) : GivesIn Φ Tryz.prog F.delta_Consolidated #[.slice p a.length cap] (.bool (consolidated a)) := Consolidated_in p cap a hΦ.go (by omega)
end

set_option maxHeartbeats 2000000 in
theorem DeltaBytes_in {Φ : PW} [Stable Φ] (p : Option Addr) (cap : Nat) (a : List DeltaD) (q : Option Addr) (cap2 : Nat) (b : List DeltaD) (s : ByteArray)
    [hA : Has Φ (fun M w => Sl M w p a)] [hB : Has Φ (fun M w => Sl M w q b)] [hN : Has Φ NumI] (ha1 : a.length ≤ cap) (ha2 : cap ≤ maxLen) (hb1 : b.length ≤ cap2) (hb2 : cap2 ≤ maxLen) :
    GivesIn Φ Tryz.prog F.erratalaw28_DeltaBytes #[.slice p a.length cap, .slice q b.length cap2, .string s] (.bool true) := by
  refine in_mach hA.go fun ma => in_mach hB.go fun mb => ?_
  refine gives_in (Berratalaw28_DeltaBytes_run p a.length cap q b.length cap2 s) fun W R => ?_
  refine fun w G cx => (small28_g.in).toB cx fun w G cx => (Few_in p cap a 100 hA.go (len_max ha1 ha2)).toB cx (Br.intro (fun _ => fun w G cx => ⟨rfl, cx.left⟩) fun hr => ?_)
  clear cx
  refine fun w G cx => (Few_in q cap2 b 100 hB.go (len_max hb1 hb2)).toB cx (Br.intro (fun _ => fun w G cx => ⟨rfl, cx.left⟩) fun hr2 => Br.intro (fun _ => fun w G cx => ⟨rfl, cx.left⟩) (fun hs => ?_))
  clear cx
  obtain ⟨al, ar, af⟩ := few_rows (by simpa only [Bool.not_eq_false'] using hr)
  obtain ⟨bl, br, bf⟩ := few_rows (by simpa only [Bool.not_eq_false'] using hr2)
  have hs : s.size ≤ 2000 := by have := of_decide_eq_false hs; omega
  clear hr hr2
  have sa : Small a := ⟨by omega, af⟩
  have sb : Small b := ⟨by omega, bf⟩
  have ra := read_bytes (fits sa ma) (Nat.le_trans (cons_small sa).1 (by decide))
  have alla := all_read (fits sa ma) (Nat.le_trans (cons_small sa).1 (by decide))
  have cal := cons_small sa
  refine fun w G cx => (BytesH (by omega) (small_fit sa)).toS cx fun w G cx => Read_to hN.go (bytesL a) (bytesL_size sa ma) (fun out ho => ?_) cx (fun h => by rw [ra] at h; cases h) (fun r p1 c1 hr e1 e2 st1 => ?_)
  · rw [alla] at ho
    cases ho
    exact ⟨by have := cal.1; omega, small_fit cal⟩
  clear cx
  rw [ra] at hr
  cases hr
  refine Br.intro (fun h => by cases h) (fun _ => ?_)
  refine fun w G cx => (ConH (a := a) (by omega) ar).to cx fun p2 c2 e3 e4 st2 => ?_
  clear cx
  refine fun w G cx => (EqualV_in (a := consP a) (b := consP a) rfl (by have := cal.1; omega)).toBW (Ψ := Φ) cx (Br.intro (fun h => by cases h) (fun _ => ?_))
  clear cx
  refine fun w G cx => (BytesH (by omega) (small_fit sb)).toS cx fun w G cx => (SameH (a := a) (b := b) (by omega) (by omega) ar br).toB cx ?_
  clear cx
  refine Br.intro (fun h => ?_) (fun _ => ?_)
  · exfalso
    rw [show decide (bs (bytesL a) = bs (bytesL b)) = decide (consP a = consP b) from decide_eq_decide.2 (bytes_iff sa ma sb mb)] at h
    simp at h
  have hsl : s.data.toList.length ≤ 2000 := by rw [list_size]; exact hs
  refine fun w G cx => Read_to hN.go s.data.toList (by omega) (fun out ho => ?_) cx (fun h => Br.intro (fun h => by cases h) (fun _ => fun w G cx => fun w G cx => ⟨rfl, cx.left⟩)) (fun r p3 c3 hr e5 e6 st3 => ?_)
  · obtain ⟨f1, f2⟩ := readAll_fit ho
    exact ⟨by omega, fun x hx => ⟨by have := (f2 x hx).1; omega, fun v hv => by have := (f2 x hx).2 v hv; omega⟩⟩
  obtain ⟨ho, hc, hb⟩ := read_is hr
  obtain ⟨f1, f2⟩ := readAll_fit ho
  refine Br.intro (fun _ => Br.intro (fun _ => ?_) (fun h => by cases h)) (fun h => by cases h)
  clear cx
  refine fun w G cx => (CondH (a := r) (by omega)).toB cx (Br.intro (fun _ => ?_) (fun h => by rw [hc] at h; cases h))
  clear cx
  refine fun w G cx => (BytesH (a := r) (by omega) (fun x hx => ⟨by have := (f2 x hx).1; omega, fun v hv => by have := (f2 x hx).2 v hv; omega⟩)).toS cx fun w G cx => ⟨?_, cx.left.weak fun M w h => h.1⟩
  rw [hb, bs_of, decide_eq_true rfl]

end Go.Proofs.YtnapfhbibikbiaaGreatDoor
end

/-
  From what a row lists as laid to the facts of the walk.
-/
section
set_option linter.unusedVariables false
set_option linter.unusedSimpArgs false
namespace Go.Proofs.YtnapfhbibikbiaaGreatDoor
open Go.Vc Go.RowKit


theorem la_row (u : TypeId) (h : Tryz.prog.typeName? 3 u = some "*errors.errorString") : u = 122 :=
  typeName_ptr_named (nm := "errors.errorString") (by rw [show "*" ++ "errors.errorString" = "*errors.errorString" by decide]; kernel_rfl) (by kernel_rfl) (by decide) u (by rw [show "*" ++ "errors.errorString" = "*errors.errorString" by decide]; exact h)

theorem la_err {n : String} {text : List UInt8} {r : List (String × DataW Unit)} {W : World} {g : Nat} (h : laidMet Tryz.prog ((n, .iface "*errors.errorString" (.ptr (.agg [.lit (.string text)]))) :: r) W)
    (hg : Tryz.prog.globalNamed n = some g) (ht : (Tryz.prog.globals[g]?).map (·.type) = some 46) : ErrAt g [] W := by
  obtain ⟨a, s, hv, _⟩ := laid_sentinel h hg ht Tryz.underlying46 la_row Tryz.underlying122 Tryz.underlying124 rfl rfl Tryz.underlying9 (by kernel_rfl) (by kernel_rfl)
  exact ⟨by simp, _, by have h0 := World.var?_cell hg hv 0; simpa using h0, .inr ⟨_, _, rfl⟩⟩

theorem la_num {W : World} (h : laidMetH Tryz.prog Rows.deltaBytesRow.laid W) : NumI [] W := by
  rw [MakeChecks.laidMetH_plain Tryz.prog Rows.deltaBytesRow.laid W (by kernel_rfl)] at h
  have h2 := h.tail.tail
  exact ⟨Tab.start (Lib.tabIs_of_head (k := .u64) (zs := Lib.pow10Tab) (g := 0) (t := 110) (e := 96) (n := 20) (by kernel_rfl) (by kernel_rfl) (by kernel_rfl) (by kernel_rfl) (by kernel_rfl) (by kernel_rfl) h2),
    la_err h2.tail.tail (by kernel_rfl) (by kernel_rfl), la_err h2.tail (by kernel_rfl) (by kernel_rfl)⟩

end Go.Proofs.YtnapfhbibikbiaaGreatDoor
end

section
set_option linter.unusedVariables false
set_option linter.unusedSimpArgs false
namespace Go.Proofs.YtnapfhbibikbiaaGreatDoor
open Go.ChangeShapes Go.WideShapes Go.ChangeAt Go.RowKit Go.Vc


theorem df_own : ownKnob Tryz.prog.godebug = none := by kernel_rfl
theorem df_laid : laidOutB Tryz.prog = true := by kernel_rfl

theorem trodAll_n {H : Type} {enc : TypeId × Value → H} {P : Program} {w : World} {base : Nat} {spare : Nat → Bool} {held : Bool} {t0 t1 t2 : TypeId} {args : Array Value} {ds : List (DataW H)} {ps : List MemPlace} (h : DataW.TrodAll enc P w base spare held [t0, t1, t2] args.toList ds ps) :
    ∃ v0 v1 v2 d0 d1 d2 p0 p1 p2, args = #[v0, v1, v2] ∧ ds = [d0, d1, d2] ∧ ps = p0 ++ p1 ++ p2 ∧ DataW.Trod enc P w base spare held t0 v0 d0 p0 ∧ DataW.Trod enc P w base spare held t1 v1 d1 p1 ∧ DataW.Trod enc P w base spare held t2 v2 d2 p2 := by
  obtain ⟨v0, vs0, d0, ds0, p0, q0, hargs, rfl, rfl, h0, h⟩ := trodAll_cons h
  obtain ⟨v1, vs1, d1, ds1, p1, q1, rfl, rfl, rfl, h1, h⟩ := trodAll_cons h
  obtain ⟨v2, vs2, d2, ds2, p2, q2, rfl, rfl, rfl, h2, h⟩ := trodAll_cons h
  obtain ⟨rfl, rfl, rfl⟩ := trodAll_nil h
  exact ⟨v0, v1, v2, d0, d1, d2, p0, p1, p2, by cases args; simp_all, rfl, by simp, h0, h1, h2⟩

theorem door_met (os : Os) (args : Array Value) : laidMetH Tryz.prog Rows.deltaBytesRow.laid ((World.doorLaid Tryz.prog 400 os).forCall (fun _ _ => 0) ⟨#[], args, []⟩).memory :=
  laidMetH_of_parts3 (fuel := 8) (laidMet_of_run' 8 (by kernel_rfl) (by kernel_rfl)) (by kernel_rfl) (by kernel_rfl)

set_option maxRecDepth 100000 in
theorem law_lifted (os : Os) (started : os.Started) (H : Type) (enc : TypeId × Value → H) :
    ReturnsInHanded {} Tryz.checked os 3 .any (fun w args => (Rows.deltaBytesSpec.pre enc Tryz.prog Tryz.f3 Rows.deltaBytesRow.domain false w args ∧ laidMetH Tryz.prog Rows.deltaBytesRow.laid w) ∧ sizedMet enc Tryz.prog Tryz.f3 (OpenSpec.ofChange Rows.deltaBytesSpec) false w args) (Rows.deltaBytesSpec.post enc Tryz.prog Tryz.f3 false true false false) := by
  refine lawTrueLaid (C := Tryz.checked) (tb := 4) df_own started (by kernel_rfl) Tryz.func3 df_laid rfl ?_ rfl Tryz.underlying4 (by kernel_rfl)
    (ChangeSpec.witness_shaped (enc := enc) (C := Tryz.checked) (os := os) (X := fun w _ => laidMetH Tryz.prog Rows.deltaBytesRow.laid w) false (World.doorLaid Tryz.prog 400 os) #[.slice none 0 0, .slice none 0 0, .string .empty] 8 rfl (World.shaped_of_RefB (by kernel_rfl) (by kernel_rfl)) (by kernel_rfl) (by kernel_rfl) (by kernel_rfl) (door_met os _)) ?_
  · intro ds hd
    match ds, hd with
    | [_, _, _], _ => exact ⟨rfl, rfl, rfl⟩
  · intro W base args ds p hval0 hA0 _ hL
    have hval : ∀ (j : Nat) t v, Tryz.f3.params[j]? = some t → args[j]? = some v → Value.okWide Tryz.prog W .any base t v := hval0
    have hA : DataW.TrodAll enc Tryz.prog W 0 (fun _ => true) true Tryz.f3.params.toList args.toList ds p := hA0
    rw [Tryz.params3] at hA hval
    obtain ⟨v0, v1, v2, d0, d1, d2, p0, p1, p2, rfl, rfl, rfl, h0, h1, h2⟩ := trodAll_n hA
    obtain ⟨ap, ac, a, rfl, aa, ab, s0⟩ := open_sl (α := DeltaD) 12 Tryz.underlying22 (hval 0 22 v0 rfl rfl) (by kernel_rfl) h0
    obtain ⟨bp, bc, b, rfl, ba, bb, s1⟩ := open_sl (α := DeltaD) 12 Tryz.underlying22 (hval 1 22 v1 rfl rfl) (by kernel_rfl) h1
    obtain ⟨s, rfl, rfl, rfl, sw⟩ := Go.ChangeMaps.open_string Tryz.underlying9 (hval 2 9 v2 rfl rfl) h2
    have st0 : Stable (fun M w => Sl M w bp b) := inferInstance
    have st1 : Stable (fun M w => Sl M w ap a ∧ Sl M w bp b) := instStableAnd (fun M w => Sl M w ap a) (fun M w => Sl M w bp b)
    have st2 : Stable (fun M w => NumI M w ∧ Sl M w ap a ∧ Sl M w bp b) := instStableAnd (fun M w => NumI M w) (fun M w => Sl M w ap a ∧ Sl M w bp b)
    have fin : GivesIn (fun M w => NumI M w ∧ Sl M w ap a ∧ Sl M w bp b) Tryz.prog 3 _ (.bool true) := DeltaBytes_in (Φ := (fun M w => NumI M w ∧ Sl M w ap a ∧ Sl M w bp b)) ap ac a bp bc b s (hA := ⟨fun _ _ h => h.2.1⟩) (hB := ⟨fun _ _ h => h.2.2⟩) (hN := ⟨fun _ _ h => h.1⟩) aa ab ba bb
    exact fin.law ⟨la_num hL, s0, s1⟩

theorem row_holds : Rows.DeltaBytesSaid :=
  OpenClaim.holds_of_wide 3 Tryz.f3 rfl rfl rfl rfl rfl rfl rfl ⟨rfl, rfl, rfl, rfl, rfl⟩ rfl rfl rfl rfl rfl (by kernel_rfl) Tryz.func3 (by kernel_rfl)
    (of_decide_eq_true (by kernel_rfl)) (by unfold Func.isWrapper; first | (rw [if_pos (by decide +kernel)]; kernel_rfl) | (rw [if_neg (by decide +kernel)]; exact ⟨rfl, rfl⟩))
    (fun os started H enc _ => law_lifted os started H enc)

theorem bytes_holds : Rows.DeltaBytesCardSaid :=
  Claim7.holds_tied_plain_at .later [] [.data, .data, .data, .sentinel, .sentinel] true Rows.deltaBytesCard.stood.harness true
    row_holds (fun _ h => by cases h) (by kernel_rfl) (fun _ h => by cases h) deltaBytes_row_tie rfl ⟨rfl, rfl⟩ (by kernel_rfl) rfl
    (fun f fn hf hfn => by
      obtain rfl : f = 3 := Option.some.inj ((show Tryz.prog.funcNamed Rows.deltaBytesRow.func = some 3 by kernel_rfl).symm.trans hf) |>.symm
      obtain rfl : fn = Tryz.f3 := (Option.some.inj (Tryz.func3.symm.trans hfn)).symm
      exact ⟨by kernel_rfl, fun j t ht => by
        rw [Tryz.params3] at ht
        have hm := Array.mem_of_getElem? ht
        have hall : ((Tryz.f3.params.toList).all fun u => !Tryz.prog.wantsStandIn u) = true := by kernel_rfl
        rw [Tryz.params3] at hall
        exact (show Tryz.prog.wantsStandIn t = false by simpa using List.all_eq_true.1 hall t (by simpa using hm))⟩)
    (by kernel_rfl)

end Go.Proofs.YtnapfhbibikbiaaGreatDoor
end

