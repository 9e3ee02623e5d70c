/-
  Consolidate, walked.
-/
import Derived.Test.YtnapfhbibikbiaaDoorCo6
import Derived.Test.YtnapfhbibikbiaaDoorCo5
import Derived.Lib.AppendZeros
import Derived.Shelf.Strings.Builder1
import Derived.Shelf.Strconv.Itoa3
import Derived.Lib.AppendStr
import Derived.Lib.LaidTab
import Derived.LaidMore
import Derived.OpenShut
import Derived.Stop.Joined
import Derived.Shelf.Small.Strs
import Derived.Shelf.Strings.BuilderF
import Derived.Shelf.Strings.BuilderK
import Derived.Shelf.Strconv.Itoa0
import Derived.Shelf.Strconv.Itoa1
import Derived.Shelf.LaysM
import Derived.Shelf.Strconv.Itoa2
import Derived.Shelf.Slices.CompactI
import Derived.Shelf.Slices.SearchI
import Derived.Shelf.Slices.Cells
import Derived.Test.YtnapfhbibikbiaaDoorRows
import Derived.Lib.ItoaNum
import Derived.Lib.SliceRun

section
set_option linter.unusedVariables false
set_option linter.unusedSimpArgs false
namespace Go.Proofs.YtnapfhbibikbiaaDoor
open Go.Vc


/-! ### one group, in plain Lean -/
theorem seg_sum {seg : List DeltaD} {k0 : Key} (h : ∀ x ∈ seg, x.key = k0) (k : Key) (hk : k ≠ k0) : sumK seg k = 0 := sumK_none fun x hx e => hk (by rw [← e, h x hx])

theorem Norm.snoc {c : List DeltaD} {x : DeltaD} (h : Norm c) (h1 : ∀ y ∈ c, cmpK y.key x.key < 0) (h2 : x.n ≠ 0) (h3 : I64 x.n) : Norm (c ++ [x]) := by
  refine ⟨List.pairwise_append.2 ⟨h.asc, List.pairwise_singleton _ _, fun y hy z hz => ?_⟩, fun y hy => ?_, fun y hy => ?_⟩
  · rw [List.mem_singleton.1 hz, cmpD_key]; exact h1 y hy
  · rcases List.mem_append.1 hy with hy | hy
    · exact h.nz y hy
    · rw [List.mem_singleton.1 hy]; exact h2
  · rcases List.mem_append.1 hy with hy | hy
    · exact h.i64 y hy
    · rw [List.mem_singleton.1 hy]; exact h3

/-- a group is put as one element, or left out -/
theorem find_group {A seg C : List DeltaD} {k0 : Key} {N : Int} (h : ∀ x ∈ seg, x.key = k0) (hN : N = findP seg k0) (k : Key) :
    (findP (A ++ (⟨k0.1, k0.2, N⟩ :: C)) k = findP (A ++ (seg ++ C)) k) ∧ (N = 0 → findP (A ++ C) k = findP (A ++ (seg ++ C)) k) := by
  have key : (((if k0 = k then N else 0) : Int) - sumK seg k) % 18446744073709551616 = 0 := by
    by_cases hk : k0 = k
    · subst hk
      rw [if_pos rfl, hN]
      exact w64_mod _
    · rw [if_neg hk, seg_sum h k (fun e => hk e.symm)]
      rfl
  have e1 : sumK (A ++ (⟨k0.1, k0.2, N⟩ :: C)) k = sumK A k + ((if k0 = k then N else 0) + sumK C k) := by rw [sumK_app]; rfl
  have e2 : sumK (A ++ (seg ++ C)) k = sumK A k + (sumK seg k + sumK C k) := by rw [sumK_app, sumK_app]
  refine ⟨?_, fun h0 => ?_⟩
  · unfold findP
    rw [e1, e2]
    exact w64_cong (by omega)
  · unfold findP
    rw [sumK_app, e2]
    refine w64_cong ?_
    rw [h0] at key
    have : ((if k0 = k then (0 : Int) else 0)) = 0 := by split <;> rfl
    omega

theorem find_snoc {seg : List DeltaD} {y : DeltaD} {k0 : Key} (hy : y.key = k0) : findP (seg ++ [y]) k0 = w64 (findP seg k0 + y.n) := by
  unfold findP
  rw [w64_l, sumK_app]
  simp only [sumK]
  rw [if_pos hy, Int.add_zero]

/-- where a slice of a sorted slice begins -/
theorem sub_at {g i k c : Nat} (h : k < c) : subPtr (some ⟨g, i * 3, none⟩) 3 k c = some ⟨g, (i + k) * 3, none⟩ := by
  unfold subPtr
  rw [if_neg (by omega), Option.map_some]
  congr 1
  unfold Addr.add
  split
  · rw [show k = 0 by omega, Nat.add_zero]
  · show Addr.mk g (i * 3 + k * 3) none = _
    rw [Nat.add_mul]

/-- what the outer loop knows -/
structure COuter (l : List DeltaD) (es outs : List DE) (i : Nat) : Prop where
  le : i ≤ es.length
  norm : Norm (outs.map DE.d)
  lt : ∀ x ∈ outs, ∀ y ∈ es.drop i, cmpK x.d.key y.d.key < 0
  find : ∀ k, findP (outs.map DE.d ++ (es.drop i).map DE.d) k = findP l k
  few : outs.length ≤ i

theorem COuter.step {l : List DeltaD} {es outs : List DE} {i : Nat} (h : COuter l es outs i) {X : DE} (hX : X ∈ es.drop i) {j : Nat} (hij : i + j ≤ es.length) (hj : 1 ≤ j) (hk : ∀ y ∈ (es.drop i).take j, y.d.key = X.d.key) {N : Int} (hN : N = findP (((es.drop i).take j).map DE.d) X.d.key)
    (hgt : ∀ y ∈ es.drop (i + j), cmpK X.d.key y.d.key < 0) : (N = 0 → COuter l es outs (i + j)) ∧ (N ≠ 0 → ∀ (p : Option Addr) (c : Nat), COuter l es (outs ++ [⟨⟨X.d.time, X.d.row, N⟩, p, c⟩]) (i + j)) := by
  have hdr : es.drop i = (es.drop i).take j ++ es.drop (i + j) := by rw [← List.drop_drop, List.take_append_drop]
  have hkm : ∀ x ∈ ((es.drop i).take j).map DE.d, x.key = X.d.key := fun x hx => by
    obtain ⟨y, hy, rfl⟩ := List.mem_map.1 hx
    exact hk y hy
  have hsub : ∀ y ∈ es.drop (i + j), y ∈ es.drop i := fun y hy => by rw [hdr]; exact List.mem_append_right _ hy
  have hf : ∀ k, findP (outs.map DE.d ++ (((es.drop i).take j).map DE.d ++ (es.drop (i + j)).map DE.d)) k = findP l k := fun k => by
    rw [← List.map_append, ← hdr]; exact h.find k
  refine ⟨fun h0 => ⟨hij, h.norm, fun x hx y hy => h.lt x hx y (hsub y hy), fun k => ?_, by have := h.few; omega⟩, fun h0 p c => ⟨hij, ?_, fun x hx y hy => ?_, fun k => ?_, by rw [List.length_append]; have := h.few; simp; omega⟩⟩
  · rw [← hf k]
    exact (find_group (A := outs.map DE.d) (C := (es.drop (i + j)).map DE.d) hkm hN k).2 h0
  · rw [List.map_append]
    refine Norm.snoc h.norm (fun y hy => ?_) h0 (by rw [hN]; exact w64_in _)
    obtain ⟨z, hz, rfl⟩ := List.mem_map.1 hy
    exact h.lt z hz X hX
  · rcases List.mem_append.1 hx with hx | hx
    · exact h.lt x hx y (hsub y hy)
    · rw [List.mem_singleton.1 hx]; exact hgt y hy
  · rw [← hf k, List.map_append, List.append_assoc]
    exact (find_group (A := outs.map DE.d) (C := (es.drop (i + j)).map DE.d) hkm hN k).1

theorem cmpFn_delta {Φ : PW} [Stable Φ] {es : List DE} (hrow : ∀ x ∈ es, x.d.row.length ≤ 1000000) : CmpFn (fun M w => Φ M w ∧ EPhi es M w) F.delta_compare #[] (fun x => x ∈ es) :=
  ⟨by kernel_rfl, fun x y hx hy => compareD_in x.d y.d x.p y.p x.c y.c (fun M w h => delta_row (h.2 x hx)) (fun M w h => delta_row (h.2 y hy)) (by have := hrow x hx; omega)⟩

theorem cell3 {w : World} {g o : Nat} {X : DE} (h : RowAt w g o X.cells) : w.cell? ⟨g, o + 2, none⟩ = some (.int .i64 X.d.n) := by
  have := h 2 (by simp)
  simpa using this

set_option maxHeartbeats 4000000 in
theorem Consolidate_new {Φ : PW} [Stable Φ] (p : Option Addr) (cap : Nat) (l : List DeltaD) (hΦ : ∀ M w, Φ M w → Sl M w p l) (hlen : l.length ≤ 1000000) (hrow : ∀ x ∈ l, x.row.length ≤ 1000000) : GivesNew Φ Tryd.prog F.delta_Consolidate #[.slice p l.length cap] (consP l) 39 := by
  refine gives_new (Bdelta_Consolidate_run p l.length cap) fun W R => ?_
  refine fun w G cx => (CloneD_in p cap l hΦ (by omega)).use cx fun p1 cap1 cs w cx => ?_
  obtain ⟨es0, rfl, hes⟩ := elems_ex cx.phi.2
  have hl : l.length = es0.length := by rw [← hes, List.length_map]
  have cx1 : Ctx W w (bufE p1 cap1 es0 :: (R ++ G)) (fun M w => Φ M w ∧ EPhi es0 M w) := by
    have h1 := cx.weak (Ψ := fun M w => Φ M w ∧ EPhi es0 M w) fun M w h => ⟨h.1, elems_e (by rw [hes]; exact h.2)⟩
    rw [hl] at h1
    exact h1
  have hrow0 : ∀ x ∈ es0, x.d.row.length ≤ 1000000 := fun x hx => hrow x.d (by rw [← hes]; exact List.mem_map_of_mem hx)
  have hf := cmpFn_delta (Φ := Φ) hrow0
  clear cx
  refine ⟨p1, es0.length, cap1, by rw [hl], bufE p1 cap1 es0 :: R, _, inferInstance, cx1, fun w G cx => ?_⟩
  refine SortStable_use (S := R ++ G) hf es0 (fun e h => h) cx (by omega) fun es w hp ha cx => ?_
  have hn : es0.length = es.length := hp.length_eq.symm
  have hi0 : ∀ x ∈ es, EPhi es0 = EPhi es0 := fun _ _ => rfl
  have cx2 : Ctx W w (bufE p1 cap1 es :: (R ++ G)) (fun M w => Φ M w ∧ EPhi es M w) := cx.weak fun M w h => ⟨h.1, fun x hx => h.2 x (hp.mem_iff.1 hx)⟩
  have hfind : ∀ k, findP (es.map DE.d) k = findP l k := fun k => by rw [← hes]; exact findP_perm (hp.map DE.d) k
  have hrowE : ∀ x ∈ es, x.d.row.length ≤ 1000000 := fun x hx => hrow0 x (hp.mem_iff.1 hx)
  have hcmp := (cmpFn_delta (Φ := Φ) hrowE).2
  have hpg : 0 < es.length → ∃ g, p1 = some ⟨g, 0, none⟩ := fun h => e_ptr cx2 h
  have hcap : es.length ≤ cap1 := (cx2.bufLen 0 rfl).2.1
  rw [hn]
  refine ⟨rfl, bufE p1 cap1 es :: R, _, inferInstance, cx2, ?_⟩
  clear hf hrow0 hi0 cx cx1 cx2 hrow hp hes
  refine exI_mk (fun sp sn sc op on oc R' Φ' k => ∃ (i : Nat) (outs : List DE), COuter l es outs i ∧ sn = es.length - i ∧ sn ≤ sc ∧ (∀ g, p1 = some ⟨g, 0, none⟩ → i < es.length → sp = some ⟨g, i * 3, none⟩) ∧ on = outs.length ∧ R' = bufE op oc outs :: bufE p1 cap1 es :: R ∧ Φ' = (fun M w => (Φ M w ∧ EPhi es M w) ∧ EPhi outs M w) ∧ k = es.length - i)
    ⟨⟨bufE none 0 [] :: bufE p1 cap1 es :: R, fun M w => (Φ M w ∧ EPhi es M w) ∧ EPhi ([] : List DE) M w, _, inferInstance, fun w G cx => ((cx.weak fun M w h => ⟨h, fun x hx => by cases hx⟩).nobuf 39 3), 0, [], ⟨Nat.zero_le _, Norm.nil, by simp, fun k => hfind k, Nat.le_refl _⟩, by omega, by omega, fun g hg _ => by rw [hg, Nat.zero_mul], rfl, rfl, rfl, rfl⟩, ?_⟩
  rintro sp sn sc op on oc R1 Φ1 k _ ⟨i, outs, hco, rfl, hsc, hsp, rfl, rfl, rfl, rfl⟩
  have hile := hco.le
  refine Br.intro (fun hlt => ?_) (fun hge => fun w G cx => ?_)
  · have hlt := of_decide_eq_true hlt
    have hlt : i < es.length := by omega
    obtain ⟨g, rfl⟩ := hpg (by omega)
    have hsp := hsp g rfl hlt
    subst hsp
    have hstP : Stable (fun M w => (Φ M w ∧ EPhi es M w) ∧ EPhi outs M w) := inferInstance
    obtain ⟨X, hX⟩ : ∃ X, es[i]? = some X := ⟨_, List.getElem?_eq_getElem hlt⟩
    have hXm : X ∈ es := List.mem_of_getElem? hX
    have hXd : X ∈ es.drop i := by
      rw [List.drop_eq_getElem_cons hlt]
      rw [List.getElem?_eq_getElem hlt] at hX
      rw [Option.some.inj hX]; simp
    have hdX : es.drop i = X :: es.drop (i + 1) := by
      rw [List.drop_eq_getElem_cons hlt]
      rw [List.getElem?_eq_getElem hlt] at hX
      rw [Option.some.inj hX]
    refine ⟨by omega, ptrK_intro g (i * 3) rfl fun w G cx => ⟨X.d.time, X.p, X.d.row.length, X.c, X.d.n, e_row cx.swap hX, fun _ => ?_⟩⟩
    obtain ⟨hIt, hIn⟩ : I64 X.d.time ∧ I64 X.d.n := by
      obtain ⟨_, _, _, _, _, h1, h2, _⟩ := delta_cells (cx.phi.1.2 X hXm)
      exact ⟨h1, h2⟩
    clear cx
    refine exI_mk (fun kI tm rp rn rc nn R' Φ' k => ∃ j : Nat, kI = j ∧ 1 ≤ j ∧ i + j ≤ es.length ∧ tm = X.d.time ∧ rp = X.p ∧ rn = X.d.row.length ∧ rc = X.c ∧ nn = findP (((es.drop i).take j).map DE.d) X.d.key ∧ (∀ y ∈ (es.drop i).take j, y.d.key = X.d.key) ∧ R' = bufE op oc outs :: bufE (some ⟨g, 0, none⟩) cap1 es :: R ∧ Φ' = (fun M w => (Φ M w ∧ EPhi es M w) ∧ EPhi outs M w) ∧ k = es.length - i - j)
      ⟨⟨_, _, _, hstP, fun w G cx => cx, 1, rfl, Nat.le_refl _, hlt, rfl, rfl, rfl, rfl, ?_, ?_, rfl, rfl, rfl⟩, ?_⟩
    · rw [hdX]
      show X.d.n = w64 ((if X.d.key = X.d.key then X.d.n else 0) + 0)
      rw [if_pos rfl, Int.add_zero, w64_id hIn]
    · rw [hdX]
      intro y hy
      simp at hy
      rw [hy]
    rintro kI _ _ _ _ nn R2 Φ2 k _ ⟨j, rfl, hj1, hj2, rfl, rfl, rfl, rfl, hnn, hkeys, rfl, rfl, rfl⟩
    have hXlen : X.d.row.length ≤ 1000000 := hrowE X hXm
    refine ⟨_, _, hstP, fun w G cx => cx, Br.intro (fun hlt2 => ?_) (fun hge2 => ?_)⟩
    case' refine_2 =>
      have hgt : ∀ y ∈ es.drop (i + j), cmpK X.d.key y.d.key < 0 := by
        have hge2 := of_decide_eq_false hge2
        rw [List.drop_eq_nil_of_le (by omega)]
        intro y hy; cases hy
    case' refine_1 =>
      have hlt2 := of_decide_eq_true hlt2
      have hij : i + j < es.length := by omega
      obtain ⟨Y, hY⟩ : ∃ Y, es[i + j]? = some Y := ⟨_, List.getElem?_eq_getElem hij⟩
      have hYm : Y ∈ es := List.mem_of_getElem? hY
      have hcall : GivesIn (fun M w => (Φ M w ∧ EPhi es M w) ∧ EPhi outs M w) Tryd.prog F.delta_compare #[.agg #[.int .i64 X.d.time, .slice X.p X.d.row.length X.c, .int .i64 nn], Y.v] (.int .i64 (cmpD ⟨X.d.time, X.d.row, nn⟩ Y.d)) :=
        compareD_in ⟨X.d.time, X.d.row, nn⟩ Y.d X.p Y.p X.c Y.c (fun M w h => show Sl M w X.p X.d.row from delta_row (h.1.2 X hXm)) (fun M w h => delta_row (h.1.2 Y hYm)) (by show X.d.row.length ≤ _; omega)
      have hYr : ∀ {w : World} {G : List Own}, Ctx W w (bufE op oc outs :: bufE (some ⟨g, 0, none⟩) cap1 es :: R ++ G) (fun M w => (Φ M w ∧ EPhi es M w) ∧ EPhi outs M w) → RowAt w g (i * 3 + (j : Int).toNat * 3) Y.cells := fun cx => by
        rw [Int.toNat_natCast, ← Nat.add_mul]; exact e_row cx.swap hY
      refine ⟨by omega, ptrK_intro g (i * 3) rfl ⟨Y.d.time, Y.p, Y.d.row.length, Y.c, Y.d.n, fun w G cx => ⟨_, Y.p, _, Y.c, _, hYr cx, rfl⟩, fun w G cx => hcall.use cx fun w cx => ⟨_, rfl, bufE op oc outs :: bufE (some ⟨g, 0, none⟩) cap1 es :: R, _, hstP, cx, Br.intro (fun hc => ?_) (fun hc => ?_)⟩⟩⟩
    case' refine_1.refine_1 =>
      have hc := of_decide_eq_true hc
      rw [cmpD_key] at hc
      have hk := (cmpK_cmp.eq _ _).1 hc
      have hk' : Y.d.key = X.d.key := hk.symm
      have htk : (es.drop i).take (j + 1) = (es.drop i).take j ++ [Y] := by
        have hlt3 : j < (es.drop i).length := by rw [List.length_drop]; omega
        rw [List.take_succ_eq_append_getElem hlt3]
        congr 2
        rw [List.getElem_drop]
        rw [List.getElem?_eq_getElem hij] at hY
        exact Option.some.inj hY
      refine ⟨by omega, ptrK_intro g (i * 3) rfl fun w G cx => ⟨Y.d.n, cell3 (hYr cx), by unfold I64; omega, _, _, es.length - i - (j + 1), hstP, fun w G cx => cx, ⟨j + 1, by omega, by omega, by omega, rfl, rfl, rfl, rfl, ?_, ?_, rfl, rfl, rfl⟩, by omega⟩⟩
      · rw [htk, List.map_append, hnn]
        exact (find_snoc hk').symm
      · rw [htk]
        intro y hy
        rcases List.mem_append.1 hy with hy | hy
        · exact hkeys y hy
        · rw [List.mem_singleton.1 hy]; exact hk'
    case' refine_1.refine_2 =>
      have hgt : ∀ y ∈ es.drop (i + j), cmpK X.d.key y.d.key < 0 := by
        have hc := of_decide_eq_false hc
        rw [cmpD_key] at hc
        have hXi : es[i] = X := by rw [List.getElem?_eq_getElem hlt] at hX; exact Option.some.inj hX
        have hYi : es[i + j] = Y := by rw [List.getElem?_eq_getElem hij] at hY; exact Option.some.inj hY
        have h1 : leE es[i] es[i + j] := asc_le ordE ha (by omega) hij
        rw [hXi, hYi] at h1
        have h1 : cmpK X.d.key Y.d.key < 0 := by
          have h2 : cmpK X.d.key Y.d.key ≤ 0 := by rw [← cmpD_key]; exact h1
          have h3 : cmpK X.d.key Y.d.key ≠ 0 := hc
          omega
        intro y hy
        obtain ⟨q, hq, rfl⟩ := List.getElem_of_mem hy
        rw [List.length_drop] at hq
        rw [List.getElem_drop]
        have h2 : leE es[i + j] es[i + j + q] := asc_le ordE ha (by omega) (by omega)
        rw [hYi] at h2
        have h2 : cmpK Y.d.key es[i + j + q].d.key ≤ 0 := by rw [← cmpD_key]; exact h2
        rcases Int.lt_or_eq_of_le h2 with h3 | h3
        · exact cmpK_cmp.trans _ _ _ h1 h3
        · rw [← (cmpK_cmp.eq _ _).1 h3]; exact h1
      clear hc hcall hYr
    all_goals
      obtain ⟨hz, hnz⟩ := hco.step hXd (by omega) hj1 hkeys hnn hgt
      refine Br.intro (fun h0 => fun w G cx => ?_) (fun h0 => ⟨by omega, _, _, es.length - (i + j), hstP, fun w G cx => cx, ⟨i + j, outs, hz (by have := of_decide_eq_false h0; omega), by rw [Int.toNat_natCast]; omega, by rw [Int.toNat_natCast]; omega, fun g' hg' h => by cases hg'; rw [Int.toNat_natCast]; exact sub_at (by omega), rfl, rfl, rfl, rfl⟩, by omega⟩)
      have h0 : nn ≠ 0 := of_decide_eq_true h0
      have hco2 := hnz h0
      have hfew := hco.few
      refine (CloneV_in (Φ := fun M w => (Φ M w ∧ EPhi es M w) ∧ EPhi outs M w) X.p X.c X.d.row (fun M w h => delta_row (h.1.2 X hXm)) (by omega)).use cx fun q qc vc w cx => ?_
      obtain ⟨_, hq1, hq2⟩ := cx.bufLen 0 rfl
      obtain ⟨cx3, hs, _⟩ := Ctx.freeze (α := ValD) cx.fst cx.phi.2
      have hst2 : Stable (fun M w => (fun M w => (Φ M w ∧ EPhi es M w) ∧ EPhi outs M w) M w ∧ Sl M w q X.d.row) := inferInstance
      refine ⟨q, _, qc, rfl, bufE op oc outs :: bufE (some ⟨g, 0, none⟩) cap1 es :: R, _, hst2, cx3.add hs, fun k w G cx => ?_⟩
      obtain ⟨p', cap', w', hrun, _, cx'⟩ := Ctx.app1 (P := Tryd.prog) (ts := 22) (ty := 22) (kb := #[false, false]) (size := 3) (bytes := 40) cx (by kernel_rfl) (by omega) rfl rfl (by omega) (by omega)
      have hcells : cellsE outs ++ [.int .i64 X.d.time, .slice q X.d.row.length qc, .int .i64 nn] = cellsE (outs ++ [⟨⟨X.d.time, X.d.row, nn⟩, q, qc⟩]) := by rw [cellsE_app]; rfl
      have hlen1 : outs.length + 1 = (outs ++ [(⟨⟨X.d.time, X.d.row, nn⟩, q, qc⟩ : DE)]).length := by simp
      have hnI : I64 nn := by rw [hnn]; exact w64_in _
      have hst3 : Stable (fun M w => (Φ M w ∧ EPhi es M w) ∧ EPhi (outs ++ [(⟨⟨X.d.time, X.d.row, nn⟩, q, qc⟩ : DE)]) M w) := inferInstance
      rw [hcells, hlen1] at cx'
      refine ⟨p', _, cap', w', hrun, bufE p' cap' (outs ++ [(⟨⟨X.d.time, X.d.row, nn⟩, q, qc⟩ : DE)]) :: bufE (some ⟨g, 0, none⟩) cap1 es :: R, _, hst3, cx'.weak fun M w h => ⟨h.1.1, fun x hx => ?_⟩, by omega, _, _, es.length - (i + j), hst3, fun w G cx => cx, ⟨i + j, _, hco2 q qc, by rw [Int.toNat_natCast]; omega, by rw [Int.toNat_natCast]; omega, fun g' hg' h => by cases hg'; rw [Int.toNat_natCast]; exact sub_at (by omega), hlen1, rfl, rfl, rfl⟩, by omega⟩
      rcases List.mem_append.1 hx with hx | hx
      · exact h.1.2 x hx
      · rw [List.mem_singleton.1 hx]
        exact rep_delta hq1 hq2 hIt hnI h.2
  · have hge := of_decide_eq_false hge
    have hi : i = es.length := by omega
    have hnorm := hco.norm
    have hfi := hco.find
    rw [hi, List.drop_length] at hfi
    have hc : consP l = outs.map DE.d := consP_is hnorm fun k => by have := hfi k; rw [List.map_nil, List.append_nil] at this; exact this
    have hol : (consP l).length = outs.length := by rw [hc, List.length_map]
    refine ⟨op, oc, cellsE outs, by rw [hol], ?_⟩
    have hstP : Stable (fun M w => (Φ M w ∧ EPhi es M w) ∧ EPhi outs M w) := inferInstance
    have cx3 : Ctx W w (bufE op oc outs :: R) (fun M w => (Φ M w ∧ EPhi es M w) ∧ EPhi outs M w) := (cx.left.swap).drop1
    rw [hol]
    exact cx3.weak fun M w h => ⟨h.1.1, by rw [hc]; exact e_elems h.2⟩

end Go.Proofs.YtnapfhbibikbiaaDoor
end

/-
  Sub, Diff, Same, walked.
-/
section
set_option linter.unusedVariables false
set_option linter.unusedSimpArgs false
namespace Go.Proofs.YtnapfhbibikbiaaDoor
open Go.Vc


/-- a consolidated list that nobody writes -/
theorem new_sl {Φ : PW} [Stable Φ] {P : Program} {f : FuncId} {args : Array Value} {l : List DeltaD} (h : GivesNew Φ P f args l 39) : GivesSl Φ P f args l id :=
  ⟨fun W w S c => (h.go W w S c).mono fun e w' ⟨p, cap, cs, he, cx⟩ => by
    obtain ⟨_, h1, h2⟩ := cx.bufLen 0 rfl
    obtain ⟨cx3, hs, _⟩ := Ctx.freeze (α := DeltaD) cx.fst cx.phi.2
    exact ⟨p, cap, he, h1, h2, cx3.add hs⟩⟩

theorem Consolidate_sl {Φ : PW} [Stable Φ] (p : Option Addr) (cap : Nat) (l : List DeltaD) (hΦ : ∀ M w, Φ M w → Sl M w p l) (hlen : l.length ≤ 1000000) (hrow : ∀ x ∈ l, x.row.length ≤ 1000000) : GivesSl Φ Tryd.prog F.delta_Consolidate #[.slice p l.length cap] (consP l) id :=
  new_sl (Consolidate_new p cap l hΦ hlen hrow)

/-- rows of what is consolidated are rows of what there was -/
theorem insD_row (x : DeltaD) {P : List ValD → Prop} (hx : P x.row) : ∀ {c : List DeltaD}, (∀ y ∈ c, P y.row) → ∀ z ∈ insD x c, P z.row
  | [], _, z, hz => by
    unfold insD at hz
    split at hz
    · cases hz
    · rw [List.mem_singleton.1 hz]; exact hx
  | y :: t, h, z, hz => by
    have hy := h y (by simp)
    have ht : ∀ q ∈ t, P q.row := fun q hq => h q (by simp [hq])
    unfold insD at hz
    split at hz
    · split at hz
      · exact h z hz
      · rcases List.mem_cons.1 hz with rfl | hz
        · exact hx
        · exact h z hz
    · split at hz
      · split at hz
        · exact ht z hz
        · rcases List.mem_cons.1 hz with rfl | hz
          · exact hy
          · exact ht z hz
      · rcases List.mem_cons.1 hz with rfl | hz
        · exact hy
        · exact insD_row x hx ht z hz
theorem consP_row {P : List ValD → Prop} : ∀ {l : List DeltaD}, (∀ x ∈ l, P x.row) → ∀ z ∈ consP l, P z.row
  | [], _, z, hz => by cases hz
  | x :: l, h, z, hz => insD_row x (h x (by simp)) (consP_row fun y hy => h y (by simp [hy])) z hz

/-! ### Sub -/
def negD (x : DeltaD) : DeltaD := ⟨x.time, x.row, w64 (0 - x.n)⟩
def subP (a b : List DeltaD) : List DeltaD := consP (a ++ b.map negD)

/-! ### Same -/
theorem delta_iff {x y : DeltaD} : x = y ↔ (x.time = y.time ∧ (x.row = y.row ∧ x.n = y.n)) := by cases x; cases y; simp
instance : DecidableEq DeltaD := fun _ _ => decidable_of_iff _ delta_iff.symm
def sameD (x y : DeltaD) : Bool := decide (cmpD x y = 0) && decide (x.n = y.n)
end Go.Proofs.YtnapfhbibikbiaaDoor
end

/-
  The walks of the reference's comparisons; Equal.
-/
section
set_option linter.unusedVariables false
set_option linter.unusedSimpArgs false
namespace Go.Proofs.YtnapfhbibikbiaaDoor
open Go.Vc

theorem bytesLess_cmp : ∀ a b : List UInt8, Op.bytesLess a b = decide (Lib.compareBytes a b < 0)
  | [], [] => by simp [Op.bytesLess, Lib.compareBytes]
  | [], _ :: _ => by simp [Op.bytesLess, Lib.compareBytes]
  | _ :: _, [] => by simp [Op.bytesLess, Lib.compareBytes]
  | a :: ar, b :: br => by
    unfold Op.bytesLess Lib.compareBytes
    rw [bytesLess_cmp ar br]
    by_cases h1 : a < b
    · simp [h1]
    · by_cases h2 : b < a
      · rw [if_neg h1, if_pos h2]
        have : a ≠ b := fun e => by subst e; exact h1 h2
        simp [h1, this]
      · have : a = b := by
          have h1' : ¬ a.toNat < b.toNat := h1
          have h2' : ¬ b.toNat < a.toNat := h2
          exact UInt8.toNat_inj.1 (by omega)
        rw [if_neg h1, if_neg h2]
        simp [this]

theorem compareBytes_zero (a b : List UInt8) : Lib.compareBytes a b = 0 ↔ a = b := bytes_cmp.eq a b
theorem compareBytes_bd (a b : List UInt8) : -1 ≤ Lib.compareBytes a b ∧ Lib.compareBytes a b ≤ 1 := bytes_cmp.bd a b
theorem cmpT_less (a b : ByteArray) : Op.bytesLess a.toList b.toList = decide (cmpT a b < 0) := by rw [bytesLess_cmp, Lib.toList_data, Lib.toList_data]; rfl
theorem cmpT_gtr (a b : ByteArray) : (!(Op.bytesLess a.toList b.toList || a.toList == b.toList)) = decide (0 < cmpT a b) := by
  rw [cmpT_less]
  have h2 : (a.toList == b.toList) = decide (cmpT a b = 0) := by
    rw [Bool.eq_iff_iff, beq_iff_eq, decide_eq_true_eq]
    unfold cmpT
    rw [compareBytes_zero, Lib.toList_data, Lib.toList_data]
  rw [h2]
  by_cases h : cmpT a b < 0
  · simp [h]; omega
  · by_cases h' : cmpT a b = 0
    · simp [h']
    · rw [decide_eq_false h, decide_eq_false h', decide_eq_true (show 0 < cmpT a b by omega)]; rfl

theorem orI_cons (x : Int) (r : List Int) : orI (x :: r) = if x ≠ 0 then x else orI r := rfl

theorem rcmpV_g (x y : ValD) : Gives Tryd.prog F.errataref03_Compare #[x.v, y.v] (.int .i64 (cmpV x y)) := by
  refine gives_of (Berrataref03_Compare_run x.kind x.num x.text y.kind y.num y.text) fun W R Φ _ => ?_
  have h3 := compareBytes_bd x.text.data.toList y.text.data.toList
  unfold cmpV cmpL
  rw [orI_cons, orI_cons, orI_cons]
  refine fun _ _ => Br.intro (fun h => fun w G c => ⟨?_, c.left⟩) (fun h => Br.intro (fun h2 => fun w G c => ⟨?_, c.left⟩) (fun h2 => Br.intro (fun h3 => fun w G c => ⟨?_, c.left⟩) (fun h3 => Br.intro (fun h4 => fun w G c => ⟨?_, c.left⟩) (fun h4 => Br.intro (fun h5 => fun w G c => ⟨?_, c.left⟩) (fun h5 => ⟨_, fun w => by rw [binOp_string_gtr]; rfl, Br.intro (fun h6 => fun w G c => ⟨?_, c.left⟩) (fun h6 => fun w G c => ⟨?_, c.left⟩)⟩)))))
  · have h := of_decide_eq_true h
    have : cmpI x.kind y.kind = -1 := by unfold cmpI; rw [if_pos h]
    rw [this]; rfl
  all_goals have h := of_decide_eq_false h
  · have h2 := of_decide_eq_true h2
    have : cmpI x.kind y.kind = 1 := by unfold cmpI; rw [if_neg h, if_pos h2]
    rw [this]; rfl
  all_goals have h2 := of_decide_eq_false h2
  all_goals have e1 : cmpI x.kind y.kind = 0 := by unfold cmpI; rw [if_neg h, if_neg h2]
  all_goals rw [e1]
  · have h3 := of_decide_eq_true h3
    have : cmpI x.num y.num = -1 := by unfold cmpI; rw [if_pos h3]
    rw [this]; rfl
  all_goals have h3 := of_decide_eq_false h3
  · have h4 := of_decide_eq_true h4
    have : cmpI x.num y.num = 1 := by unfold cmpI; rw [if_neg h3, if_pos h4]
    rw [this]; rfl
  all_goals have h4 := of_decide_eq_false h4
  all_goals have e2 : cmpI x.num y.num = 0 := by unfold cmpI; rw [if_neg h3, if_neg h4]
  all_goals rw [e2]
  · have h5 : Op.bytesLess x.text.toList y.text.toList = true := h5
    rw [cmpT_less] at h5
    have h5 := of_decide_eq_true h5
    have : cmpT x.text y.text = -1 := by have : -1 ≤ cmpT x.text y.text := (compareBytes_bd _ _).1; omega
    rw [this]; rfl
  all_goals have h5 : Op.bytesLess x.text.toList y.text.toList = false := h5
  all_goals rw [cmpT_less] at h5
  all_goals have h5 := of_decide_eq_false h5
  · rw [cmpT_gtr] at h6
    have h6 := of_decide_eq_true h6
    have : cmpT x.text y.text = 1 := by have : cmpT x.text y.text ≤ 1 := (compareBytes_bd _ _).2; omega
    rw [this]; rfl
  · rw [cmpT_gtr] at h6
    have h6 := of_decide_eq_false h6
    have : cmpT x.text y.text = 0 := by omega
    rw [this]; rfl

theorem cmpR_nil {l r : List ValD} {i : Nat} (h : l.length ≤ i) (hr : r.length ≤ i) : cmpR (l.drop i) (r.drop i) = 0 := by
  rw [List.drop_of_length_le h, List.drop_of_length_le hr]; rfl
theorem cmpR_right {l r : List ValD} {i : Nat} (hi : l.length ≤ i) (hr : i < r.length) : cmpR (l.drop i) (r.drop i) = -1 := by
  rw [List.drop_eq_getElem_cons hr, List.drop_of_length_le hi]; rfl

theorem rCompareRows_in {Φ : PW} [Stable Φ] (p q : Option Addr) (cap cap2 : Nat) (l r : List ValD) (hΦ : ∀ M w, Φ M w → Sl M w p l) (hΨ : ∀ M w, Φ M w → Sl M w q r) (hlen : l.length ≤ 9223372036854775807) :
    GivesIn Φ Tryd.prog F.errataref03_CompareRows #[.slice p l.length cap, .slice q r.length cap2] (.int .i64 (cmpR l r)) := by
  refine .there (fun M w h => (hΦ M w h).there) fun hth => .there (fun M w h => (hΨ M w h).there) fun hth2 => ?_
  refine gives_in (Berrataref03_CompareRows_run p l.length cap q r.length cap2) fun W R => ?_
  refine exI_mk (fun n R' Φ' k => ∃ i : Nat, n = i ∧ i ≤ l.length ∧ i ≤ r.length ∧ R' = R ∧ Φ' = Φ ∧ k = l.length - i ∧ cmpR l r = cmpR (l.drop i) (r.drop i)) ⟨⟨R, Φ, _, inferInstance, fun w F c => c, 0, rfl, Nat.zero_le _, Nat.zero_le _, rfl, rfl, rfl, rfl⟩, ?_⟩
  rintro n R1 Φ1 k _ ⟨i, rfl, hi, hr, rfl, rfl, rfl, hcm⟩
  refine fun w G cx => Br.intro (fun hlt => ?_) (fun hge => ?_)
  · rw [Bool.and_eq_true] at hlt
    have hl : i < l.length := by have := of_decide_eq_true hlt.1; omega
    have hr2 : i < r.length := by have := of_decide_eq_true hlt.2; omega
    obtain ⟨b, o, rfl⟩ := hth (by omega)
    obtain ⟨b2, o2, rfl⟩ := hth2 (by omega)
    rw [cmpR_both hl hr2] at hcm
    refine ⟨R1, Φ1, inferInstance, fun _ _ c => c, by omega, ptrK_intro b o rfl ⟨by omega, ptrK_intro b2 o2 rfl ⟨l[i].kind, l[i].num, l[i].text, fun w G cx => ⟨_, _, _, sl_val (hΦ _ _ cx.phi) hl, rfl⟩, r[i].kind, r[i].num, r[i].text, fun w G cx => ⟨_, _, _, sl_val (hΨ _ _ cx.phi) hr2, rfl⟩, fun w G cx => (rcmpV_g l[i] r[i]).use cx fun w cx => ⟨_, rfl, R1, Φ1, inferInstance, cx,
      Br.intro (fun hn => fun w F cx => ⟨?_, cx.left⟩) (fun hn => ⟨by unfold I64; omega, R1, Φ1, l.length - (i + 1), inferInstance, fun w F c => c, ⟨i + 1, rfl, hl, hr2, rfl, rfl, rfl, ?_⟩, by omega⟩)⟩⟩⟩⟩
    · have hn : cmpV l[i] r[i] ≠ 0 := by simpa using hn
      rw [hcm, if_pos hn]
    · have hn : ¬ cmpV l[i] r[i] ≠ 0 := by simpa using hn
      rw [hcm, if_neg hn]
  · have hge : l.length ≤ i ∨ r.length ≤ i := by
      rw [Bool.and_eq_false_iff] at hge
      rcases hge with h | h
      · left; have := of_decide_eq_false h; omega
      · right; have := of_decide_eq_false h; omega
    refine Br.intro (fun h => fun w G cx => ⟨?_, cx.left⟩) (fun h => Br.intro (fun h2 => fun w G cx => ⟨?_, cx.left⟩) (fun h2 => fun w G cx => ⟨?_, cx.left⟩))
    · have h := of_decide_eq_true h
      rw [hcm, cmpR_right (by omega) (by omega)]
    · have h2 := of_decide_eq_true h2
      rw [hcm, cmpR_left (by omega) (by omega)]
    · have h := of_decide_eq_false h
      have h2 := of_decide_eq_false h2
      rw [hcm, cmpR_nil (by omega) (by omega)]

theorem rCompareD_in {Φ : PW} [Stable Φ] (x y : DeltaD) (p q : Option Addr) (cap cap2 : Nat) (hΦ : ∀ M w, Φ M w → Sl M w p x.row) (hΨ : ∀ M w, Φ M w → Sl M w q y.row) (hlen : x.row.length ≤ 9223372036854775807) :
    GivesIn Φ Tryd.prog F.errataref28_Compare #[x.v p cap, y.v q cap2] (.int .i64 (cmpD x y)) := by
  refine gives_in (Berrataref28_Compare_run x.time p x.row.length cap x.n y.time q y.row.length cap2 y.n) fun W R => ?_
  unfold cmpD cmpDL
  rw [orI_cons, orI_cons]
  refine fun _ _ => Br.intro (fun h => fun w G c => ⟨?_, c.left⟩) (fun h => Br.intro (fun h2 => fun w G c => ⟨?_, c.left⟩) (fun h2 => ?_))
  · have h := of_decide_eq_true h
    have : cmpI x.time y.time = -1 := by unfold cmpI; rw [if_pos h]
    rw [this]; rfl
  all_goals have h := of_decide_eq_false h
  · have h2 := of_decide_eq_true h2
    have : cmpI x.time y.time = 1 := by unfold cmpI; rw [if_neg h, if_pos h2]
    rw [this]; rfl
  have h2 := of_decide_eq_false h2
  have e1 : cmpI x.time y.time = 0 := by unfold cmpI; rw [if_neg h, if_neg h2]
  rw [e1]
  refine fun w G cx => (rCompareRows_in p q cap cap2 x.row y.row hΦ hΨ hlen).use cx fun w cx => ⟨_, rfl, R, Φ, inferInstance, cx, fun w G cx => ⟨?_, cx.left⟩⟩
  by_cases h0 : cmpR x.row y.row = 0
  · rw [h0]; rfl
  · rw [if_neg (by omega), if_pos h0]

/-! ### Equal -/
theorem Equal_pin {Φ : PW} [Stable Φ] (p : Option Addr) (cap : Nat) (a : List DeltaD) (q : Option Addr) (cap2 : Nat) (b : List DeltaD) (g1 o1 : Nat) (cs1 : List (List Value)) (g2 o2 : Nat) (cs2 : List (List Value)) (hp : 0 < a.length → p = some ⟨g1, o1, none⟩) (hq : 0 < b.length → q = some ⟨g2, o2, none⟩)
    (hΦ : ∀ M w, Φ M w → Pin g1 o1 cs1 a M w) (hΨ : ∀ M w, Φ M w → Pin g2 o2 cs2 b M w) (hlen : a.length ≤ 9223372036854775807) :
    GivesIn Φ Tryd.prog F.errataref28_Equal #[.slice p a.length cap, .slice q b.length cap2] (.bool (decide (a = b))) := by
  refine in_cells hΦ fun hc1 => in_cells hΨ fun hc2 => ?_
  refine gives_in (Berrataref28_Equal_run p a.length cap q b.length cap2) fun W R => ?_
  refine Br.intro (fun h => fun w G cx => ⟨?_, cx.left⟩) (fun h => ?_)
  · rw [decide_eq_false]
    intro e
    have := of_decide_eq_true h
    rw [e] at this
    exact this rfl
  have hl : a.length = b.length := by have := of_decide_eq_false h; omega
  refine exI_mk (fun iI R' Φ' k => ∃ i : Nat, iI = i ∧ i ≤ a.length ∧ R' = R ∧ Φ' = Φ ∧ k = a.length - i ∧ a.take i = b.take i) ⟨⟨R, Φ, _, inferInstance, fun w F c => c, 0, rfl, Nat.zero_le _, rfl, rfl, rfl, rfl⟩, ?_⟩
  rintro iI R1 Φ1 k _ ⟨i, rfl, hi, rfl, rfl, rfl, hs⟩
  refine Br.intro (fun hlt => ?_) (fun hge => fun w F cx => ⟨?_, cx.left⟩)
  · have hlt : i < a.length := by have := of_decide_eq_true hlt; omega
    have hltb : i < b.length := by omega
    obtain ⟨r1, rc1, he1, f1, f2, _, _⟩ := hc1 i hlt
    obtain ⟨r2, rc2, he2, f3, f4, _, _⟩ := hc2 i hltb
    have hcall := rCompareD_in (Φ := Φ1) a[i] b[i] r1 r2 rc1 rc2 (fun M w h => pin_row (hΦ M w h) hlt he1) (fun M w h => pin_row (hΨ M w h) hltb he2) (len_max f1 f2)
    have hn1 : ∀ {w : World} {G : List Own}, Ctx W w (R1 ++ G) Φ1 → w.cell? ⟨g1, o1 + (i : Int).toNat * 3 + 2, none⟩ = some (.int .i64 a[i].n) := fun cx => by
      have := pin_rowAt (hΦ _ _ cx.phi) hlt he1 2 (by simp)
      rw [Int.toNat_natCast]; simpa using this
    have hn2 : ∀ {w : World} {G : List Own}, Ctx W w (R1 ++ G) Φ1 → w.cell? ⟨g2, o2 + (i : Int).toNat * 3 + 2, none⟩ = some (.int .i64 b[i].n) := fun cx => by
      have := pin_rowAt (hΨ _ _ cx.phi) hltb he2 2 (by simp)
      rw [Int.toNat_natCast]; simpa using this
    refine ⟨R1, Φ1, inferInstance, fun _ _ c => c, by omega, ptrK_intro g1 o1 (hp (by omega)) ⟨by omega, ptrK_intro g2 o2 (hq (by omega)) ⟨a[i].time, r1, a[i].row.length, rc1, a[i].n, fun w G cx => ⟨_, _, _, _, _, by rw [Int.toNat_natCast]; exact pin_rowAt (hΦ _ _ cx.phi) hlt he1, rfl⟩, b[i].time, r2, b[i].row.length, rc2, b[i].n, fun w G cx => ⟨_, _, _, _, _, by rw [Int.toNat_natCast]; exact pin_rowAt (hΨ _ _ cx.phi) hltb he2, rfl⟩,
      fun w G cx => hcall.use cx fun w cx => ⟨_, rfl, R1, Φ1, inferInstance, cx, Br.intro (fun hn => fun w F cx => ⟨?_, cx.left⟩) (fun hn => ⟨by omega, ptrK_intro g1 o1 (hp (by omega)) ⟨by omega, ptrK_intro g2 o2 (hq (by omega)) fun w G cx => ⟨_, hn1 cx, fun w G cx => ⟨_, hn2 cx, Br.intro (fun h3 => fun w G cx => ⟨?_, cx.left⟩) (fun h3 => ⟨by unfold I64; omega, R1, Φ1, a.length - (i + 1), inferInstance, fun w F c => c, ⟨i + 1, rfl, hlt, rfl, rfl, rfl, ?_⟩, by omega⟩)⟩⟩⟩⟩)⟩⟩⟩⟩
    · rw [decide_eq_false]
      intro e
      subst e
      have := of_decide_eq_true hn
      rw [cmpD_key] at this
      exact this (cmpK_cmp.refl _)
    · rw [decide_eq_false]
      intro e
      subst e
      have := of_decide_eq_true h3
      exact this rfl
    · have h1 := of_decide_eq_false hn
      have h2 := of_decide_eq_false h3
      have h1 : cmpD a[i] b[i] = 0 := Decidable.not_not.1 h1
      have h2 : a[i].n = b[i].n := Decidable.not_not.1 h2
      rw [cmpD_key] at h1
      have he : a[i] = b[i] := delta_ext ((cmpK_cmp.eq _ _).1 h1) h2
      rw [List.take_succ_eq_append_getElem hlt, List.take_succ_eq_append_getElem hltb, hs, he]
  · have hge : i = a.length := by have := of_decide_eq_false hge; omega
    rw [decide_eq_true]
    rw [hge, List.take_length, hl, List.take_length] at hs
    exact hs

theorem Equal_in {Φ : PW} [Stable Φ] (p : Option Addr) (cap : Nat) (a : List DeltaD) (q : Option Addr) (cap2 : Nat) (b : List DeltaD) (hΦ : ∀ M w, Φ M w → Sl M w p a) (hΨ : ∀ M w, Φ M w → Sl M w q b) (hlen : a.length ≤ 9223372036854775807) :
    GivesIn Φ Tryd.prog F.errataref28_Equal #[.slice p a.length cap, .slice q b.length cap2] (.bool (decide (a = b))) :=
  .pinned hΦ fun g1 o1 cs1 hp => .pinned (fun M w h => hΨ M w h.1) fun g2 o2 cs2 hq => Equal_pin (Φ := fun M w => (Φ M w ∧ Pin g1 o1 cs1 a M w) ∧ Pin g2 o2 cs2 b M w) p cap a q cap2 b g1 o1 cs1 g2 o2 cs2 hp hq (fun M w h => h.1.2) (fun M w h => h.2) hlen

end Go.Proofs.YtnapfhbibikbiaaDoor
end

/-
  Lines of a difference, walked.
-/
section
set_option linter.unusedVariables false
set_option linter.unusedSimpArgs false
namespace Go.Proofs.YtnapfhbibikbiaaDoor
open Go.Vc


structure LineD where
  no : Int
  batch : Int
  time : Int
  row : List ValD
  n : Int
  cause : Int
  why : Int
instance : Gv LineD := Gv.via (β := Int × Int × Int × List ValD × Int × Int × Int) (fun x => (x.no, x.batch, x.time, x.row, x.n, x.cause, x.why)) (fun y => ⟨y.1, y.2.1, y.2.2.1, y.2.2.2.1, y.2.2.2.2.1, y.2.2.2.2.2.1, y.2.2.2.2.2.2⟩) (fun _ => rfl)

abbrev LineD.cells (x : LineD) (p : Option Addr) (c : Nat) : List Value := [.int .i64 x.no, .int .i64 x.batch, .int .i64 x.time, .slice p x.row.length c, .int .i64 x.n, .int .i64 x.cause, .int .i64 x.why]
abbrev LineD.v (x : LineD) (p : Option Addr) (c : Nat) : Value := .agg #[.int .i64 x.no, .int .i64 x.batch, .int .i64 x.time, .slice p x.row.length c, .int .i64 x.n, .int .i64 x.cause, .int .i64 x.why]

structure LineD.In (x : LineD) : Prop where
  no : I64 x.no
  batch : I64 x.batch
  time : I64 x.time
  n : I64 x.n
  cause : I64 x.cause
  why : I64 x.why

/-! ### Lines -/
def lineP (no batch mark replace : Int) (i : Nat) (x : DeltaD) : LineD :=
  ⟨w64 (no + i), batch, x.time, x.row, x.n, if 0 < replace then 2 else if mark < x.time then 0 else 1, if 0 < replace then replace else 0⟩
def linesC (no batch mark replace : Int) (c : List DeltaD) : List LineD := c.mapIdx (lineP no batch mark replace)
def linesP (no batch mark replace : Int) (d : List DeltaD) : List LineD := linesC no batch mark replace (consP d)

/-! ### Net -/
def LineD.d (x : LineD) : DeltaD := ⟨x.time, x.row, x.n⟩
def netP (l : List LineD) : List DeltaD := consP (l.map LineD.d)

/-! ### Least -/
def causeP (x y : LineD) : Bool := decide (x.cause = y.cause) || decide (x.cause = 1) && decide (y.cause = 0) && decide (x.time < y.time)
def followsP (x y : LineD) : Bool :=
  if y.no ≠ w64 (x.no + 1) then false else if y.batch ≠ x.batch then false else if y.why ≠ x.why then false else if y.time < x.time then false
  else if y.time = x.time then (if 0 ≤ cmpR x.row y.row then false else causeP x y) else causeP x y

def okL (x : LineD) : Bool := !decide (x.n = 0) && ((decide (x.cause = 2) && decide (0 < x.why)) || ((decide (x.cause = 0) || decide (x.cause = 1)) && decide (x.why = 0)))
def okAt (l : List LineD) (i : Nat) : Bool :=
  match l[i]? with
  | none => true
  | some x => okL x && (match i with
    | 0 => true
    | j + 1 => match l[j]? with
      | none => true
      | some y => followsP y x)
def leastP (l : List LineD) : Bool := (List.range l.length).all (okAt l)

end Go.Proofs.YtnapfhbibikbiaaDoor
end

/-
  Least, at, small, walked.
-/
section
set_option linter.unusedVariables false
set_option linter.unusedSimpArgs false
namespace Go.Proofs.YtnapfhbibikbiaaDoor
open Go.Vc


/-! ### the examples -/
abbrev valI (n : Int) : ValD := ⟨0, n, ByteArray.mk #[]⟩
abbrev atP (t n : Int) : DeltaD := ⟨t, [valI n], 1⟩

end Go.Proofs.YtnapfhbibikbiaaDoor
end

/-
  small, walked; the law of lines in plain Lean.
-/
section
set_option linter.unusedVariables false
set_option linter.unusedSimpArgs false
namespace Go.Proofs.YtnapfhbibikbiaaDoor
open Go.Vc


theorem line_iff {x y : LineD} : x = y ↔ (x.no = y.no ∧ (x.batch = y.batch ∧ (x.time = y.time ∧ (x.row = y.row ∧ (x.n = y.n ∧ (x.cause = y.cause ∧ x.why = y.why)))))) := by cases x; cases y; simp
instance : DecidableEq LineD := fun _ _ => decidable_of_iff _ line_iff.symm

abbrev dS : List DeltaD := [⟨5, [valI 1], -1⟩, ⟨5, [valI 2], 1⟩]
abbrev aS : List LineD := [⟨7, 3, 5, [valI 1], -1, 0, 0⟩, ⟨8, 3, 5, [valI 2], 1, 0, 0⟩]
abbrev bS : List LineD := [⟨7, 3, 5, [valI 1], -1, 1, 0⟩, ⟨8, 3, 5, [valI 2], 1, 1, 0⟩]
abbrev cS : List LineD := [⟨7, 3, 5, [valI 1], -1, 2, 2⟩, ⟨8, 3, 5, [valI 2], 1, 2, 2⟩]
end Go.Proofs.YtnapfhbibikbiaaDoor
end

/-
  Concat, Add, Consolidated, walked.
-/
section
set_option linter.unusedVariables false
set_option linter.unusedSimpArgs false
namespace Go.Vc
section
variable {W w : World} {S : List Own} {Φ : PW}

/-- append of new zeroes to nothing, taken as room -/
theorem Ctx.grow0 [Stable Φ] {P : Program} (c : Ctx W w S Φ) {ts tn ty t : TypeId} {kb : Array Bool} {size bytes : Nat} (hb : appB P ts t size bytes = true) (htn : P.underlying tn = some (.int .i64)) (m : Nat) (h0 : 0 < m) (hm : m ≤ 1000000) (hpos : 0 < size) (hbytes : bytes ≤ 1000) :
    ∃ g cap' w', Sem.run P (builtin Builtin.append #[ts, tn] ty kb #[.slice none 0 0, .int .i64 m]) w = .ok (.value (.slice (some ⟨g, 0, none⟩) m cap')) w' ∧ m ≤ cap' ∧ Ctx W w' (.buf (some ⟨g, 0, none⟩) 0 cap' [] t size :: S) Φ := by
  obtain ⟨i, z, e1, e2, e3, e4, e5, e6⟩ := appB_out hb
  subst e4
  have hmb : m * i.bytes ≤ 1000000 * 1000 := Nat.mul_le_mul hm (by omega)
  have hr := Go.Lib.run_append_nil_zeros (P := P) w ts tn ty t i z .i64 .i64 e1 htn e2 e3 m h0 hpos (by omega) (by omega)
  have hge := grownCap_ge w m 0 t
  have hcm : grownCap w m 0 t ≤ maxLen := grownCap_le_maxLen w m 0 t (by simp only [maxLen]; omega)
  have h := (c.buf0 t i.size).upd (k := 0) (o' := .buf (some ⟨w.heap.size, 0, none⟩) 0 (grownCap w m 0 t) [] t i.size) rfl (((Chg.refl _ _).drewN 1).alloc (.cells (Builtin.zeroCells z.cells m ++ Builtin.zeroCells z.cells (grownCap w m 0 t - m)) t)) (by simp [Own.dom]) (by simp [Own.dom])
    ⟨by simp, .inr ⟨w.heap.size, _, _, rfl, Nat.zero_le _, hp_alloc_new w.drew _, Nat.zero_le _, hcm, by
      simp only [Array.size_append, size_zeroCells, e5, ← Nat.add_mul]
      congr 1
      omega, by simp⟩⟩
  exact ⟨_, _, _, run_app hr, hge, h⟩

/-- append a slice of plain data, perhaps empty -/
theorem Ctx.appAny [Stable Φ] {P : Program} {α : Type} [Gv α] {q : Option Addr} {l : List α} {c2 : Nat} {p : Option Addr} {n cap : Nat} {cs : List Value} {t : TypeId} {bytes : Nat} (c : Ctx W w (.buf p n cap cs t (Gv.ty α).size :: S) Φ)
    {ts ty : TypeId} {kb : Array Bool} (hb : appB P ts t (Gv.ty α).size bytes = true) (h1 : ∀ M w cs (x : α), Gv.rep M w cs x → (cs.all fun u => oneC u) = true) (hsl : ∀ M w, Φ M w → Sl M w q l) (hlen : n + l.length < 100000000) (hbytes : bytes ≤ 1000) :
    ∃ p' cap' w' news, Sem.run P (builtin Builtin.append #[ts, ts] ty kb #[.slice p n cap, .slice q l.length c2]) w = .ok (.value (.slice p' (n + l.length) cap')) w' ∧
      Ctx W w' (.buf p' (n + l.length) cap' (cs ++ news) t (Gv.ty α).size :: S) (fun M w => Φ M w ∧ Elems M w news l) := by
  rcases Nat.eq_zero_or_pos l.length with h0 | h0
  · obtain ⟨i, z, e1, e2, e3, e4, e5, e6⟩ := appB_out hb
    have hl : l = [] := List.eq_nil_of_length_eq_zero h0
    subst hl
    refine ⟨p, cap, w, [], run_app (c.append0 0 rfl e1 e2 q c2), ?_⟩
    rw [List.append_nil]
    exact c.add Elems.nil
  · obtain ⟨p', cap', w', news, h2, _, c3⟩ := c.appSl (ty := ty) (kb := kb) (c2 := c2) hb h1 hsl h0 hlen hbytes
    exact ⟨p', cap', w', news, h2, c3⟩

end
end Go.Vc

namespace Go.Proofs.YtnapfhbibikbiaaDoor
open Go.Vc


theorem pin_ll {M : List Nat} {w : World} {g o : Nat} {cs : List (List Value)} {ls : List (List DeltaD)} (h : Pin g o cs ls M w) {j : Nat} (hj : j < ls.length) : ∃ p c, cs.getD j [] = [.slice p ls[j].length c] ∧ ls[j].length ≤ c ∧ c ≤ maxLen := by
  obtain ⟨_, h1, h2⟩ := h j hj
  obtain ⟨p, c, e, g1, g2, _⟩ := rep_list.1 h2
  exact ⟨p, c, e, g1, g2⟩
theorem pin_llSl {M : List Nat} {w : World} {g o : Nat} {cs : List (List Value)} {ls : List (List DeltaD)} (h : Pin g o cs ls M w) {j : Nat} (hj : j < ls.length) {p : Option Addr} {c : Nat} (e : cs.getD j [] = [.slice p ls[j].length c]) : Sl M w p ls[j] := by
  obtain ⟨_, h1, h2⟩ := h j hj
  obtain ⟨p', c', e', g1, g2, hs⟩ := rep_list.1 h2
  rw [e] at e'
  simp only [List.cons.injEq, Value.slice.injEq] at e'
  rw [e'.1.1]
  exact hs
theorem pin_llAt {M : List Nat} {w : World} {g o : Nat} {cs : List (List Value)} {ls : List (List DeltaD)} (h : Pin g o cs ls M w) {j : Nat} (hj : j < ls.length) {p : Option Addr} {c : Nat} (e : cs.getD j [] = [.slice p ls[j].length c]) : w.cell? ⟨g, o + j, none⟩ = some (.slice p ls[j].length c) := by
  obtain ⟨_, h1, h2⟩ := h j hj
  rw [e] at h1
  have := h1 0 (by simp)
  rw [show (Gv.ty (List DeltaD)).size = 1 from rfl, Nat.mul_one] at this
  simpa using this

theorem flat_take (ls : List (List DeltaD)) {i : Nat} (h : i < ls.length) : (ls.take (i + 1)).flatten = (ls.take i).flatten ++ ls[i] := by
  rw [List.take_succ_eq_append_getElem h, List.flatten_append]
  simp
theorem flat_le (ls : List (List DeltaD)) (i : Nat) : (ls.take i).flatten.length ≤ ls.flatten.length := by
  have h : ls.flatten = (ls.take i).flatten ++ (ls.drop i).flatten := by rw [← List.flatten_append, List.take_append_drop]
  rw [h, List.length_append]
  omega

theorem Grow_use {W w : World} {S : List Own} {Φ : PW} [Stable Φ] (n : Nat) (hn : n ≤ 1000000) (cx : Ctx W w S Φ) {K : Ending → World → Prop}
    (hK : ∀ p cap w', Ctx W w' (.buf p 0 cap [] 39 3 :: S) Φ → K (.returned (.slice p 0 cap)) w') : Calls Tryd.prog F.slices_Grow_api_Delta_api_Delta #[.slice none 0 0, .int .i64 n] w K := by
  refine (Bslices_Grow_api_Delta_api_Delta_run none 0 0 n (J := fun u w' => K (.returned u) w') cx ?_).mono fun e w' ⟨v, he, hj⟩ => by rw [he]; exact hj
  refine Br.intro (fun h => by have := of_decide_eq_true h; omega) (fun _ => ⟨by unfold I64; omega, by unfold I64; omega, Br.intro (fun h => ⟨by omega, fun w G cx => ?_⟩) (fun h => fun w G cx => hK _ _ _ (cx.left.buf0 39 3))⟩)
  have h := of_decide_eq_true h
  obtain ⟨g, cap', w', hrun, hge, cx'⟩ := Ctx.grow0 (P := Tryd.prog) (ts := 22) (tn := 3) (ty := 22) (t := 39) (kb := #[false, false]) (size := 3) (bytes := 40) cx (by kernel_rfl) (by kernel_rfl) n (by omega) hn (by omega) (by omega)
  have e : (n : Int) - (((0 : Nat) : Int) - ((0 : Nat) : Int)) = n := by omega
  rw [e]
  refine ⟨_, _, _, _, hrun, .buf (some ⟨g, 0, none⟩) 0 cap' [] 39 3 :: S, Φ, inferInstance, cx', by omega, fun w G cx => ?_⟩
  have hp : subPtr (some ⟨g, 0, none⟩) 3 0 cap' = some ⟨g, 0, none⟩ := by
    unfold subPtr
    split <;> rfl
  show K (.returned (.slice (subPtr (some ⟨g, 0, none⟩) 3 0 cap') 0 cap')) w
  rw [hp]
  exact hK _ _ _ cx.left

set_option maxHeartbeats 1000000 in
theorem Concat_pin {Φ : PW} [Stable Φ] (q : Option Addr) (cap : Nat) (ls : List (List DeltaD)) (g o : Nat) (cs : List (List Value)) (hq : 0 < ls.length → q = some ⟨g, o, none⟩) (hΦ : ∀ M w, Φ M w → Pin g o cs ls M w) (hn : ls.length ≤ 1000000) (hlen : ls.flatten.length ≤ 1000000) :
    GivesNew Φ Tryd.prog F.slices_Concat_api_Delta_api_Delta #[.slice q ls.length cap] ls.flatten 39 := by
  refine ⟨fun W0 w0 S0 c0 => ?_⟩
  have hcs : ∀ j, (hj : j < ls.length) → ∃ p c, cs.getD j [] = [.slice p ls[j].length c] ∧ ls[j].length ≤ c ∧ c ≤ maxLen := fun j hj => pin_ll (hΦ _ _ c0.phi) hj
  refine GivesNew.go (gives_new (Bslices_Concat_api_Delta_api_Delta_run q ls.length cap) fun W R => ?_) W0 w0 S0 c0
  clear c0
  refine exI_mk (fun n iI R' Φ' k => ∃ i : Nat, iI = i ∧ i ≤ ls.length ∧ n = ((ls.take i).flatten.length : Int) ∧ R' = R ∧ Φ' = Φ ∧ k = ls.length - i) ⟨⟨R, Φ, _, inferInstance, fun w G cx => cx, 0, rfl, Nat.zero_le _, rfl, rfl, rfl, rfl⟩, ?_⟩
  rintro n iI R1 Φ1 k _ ⟨i, rfl, hi, rfl, rfl, rfl, rfl⟩
  refine Br.intro (fun hlt => ?_) (fun hge => ?_)
  · have hlt := of_decide_eq_true hlt
    have hlt : i < ls.length := by omega
    obtain ⟨p, c, he, h1, h2⟩ := hcs i hlt
    have hf := flat_take ls hlt
    have hfl : (ls.take (i + 1)).flatten.length = (ls.take i).flatten.length + ls[i].length := by rw [hf, List.length_append]
    have hle := flat_le ls (i + 1)
    refine ⟨by omega, ptrK_intro g o (hq (by omega)) fun w G cx => ⟨p, ls[i].length, c, by rw [Int.toNat_natCast]; exact pin_llAt (hΦ _ _ cx.phi) hlt he, by unfold I64; omega, Br.intro (fun h => by have := of_decide_eq_true h; omega) (fun _ => ⟨by unfold I64; omega, R1, Φ1, ls.length - (i + 1), inferInstance, fun w G cx => cx, ⟨i + 1, by omega, hlt, by omega, rfl, rfl, rfl⟩, by omega⟩)⟩⟩
  have hge := of_decide_eq_false hge
  have hi : i = ls.length := by omega
  subst hi
  rw [List.take_length]
  clear hge
  refine fun w G cx => Grow_use ls.flatten.length hlen cx fun p0 cap0 w cx => ⟨p0, 0, cap0, rfl, .buf p0 0 cap0 [] 39 3 :: R1, Φ1, inferInstance, cx, ?_⟩
  clear cx
  refine exI_mk (fun sp sn sc iI R' Φ' k => ∃ (i : Nat) (ds : List Value), iI = i ∧ i ≤ ls.length ∧ sn = (ls.take i).flatten.length ∧ R' = .buf sp sn sc ds 39 3 :: R1 ∧ Φ' = (fun M w => Φ1 M w ∧ Elems M w ds (ls.take i).flatten) ∧ k = ls.length - i)
    ⟨⟨.buf p0 0 cap0 [] 39 3 :: R1, fun M w => Φ1 M w ∧ Elems M w [] (ls.take 0).flatten, _, inferInstance, fun w G cx => cx.weak fun M w h => ⟨h, Elems.nil⟩, 0, [], rfl, Nat.zero_le _, rfl, rfl, rfl, rfl⟩, ?_⟩
  rintro sp _ sc iI R2 Φ2 k _ ⟨i, ds, rfl, hi, rfl, rfl, rfl, rfl⟩
  refine Br.intro (fun hlt => ?_) (fun hge => fun w G cx => ?_)
  · have hlt := of_decide_eq_true hlt
    have hlt : i < ls.length := by omega
    obtain ⟨p, c, he, h1, h2⟩ := hcs i hlt
    have hf := flat_take ls hlt
    have hfl : (ls.take (i + 1)).flatten.length = (ls.take i).flatten.length + ls[i].length := by rw [hf, List.length_append]
    have hle := flat_le ls (i + 1)
    refine ⟨by omega, ptrK_intro g o (hq (by omega)) fun w G cx => ⟨p, ls[i].length, c, by rw [Int.toNat_natCast]; exact pin_llAt (hΦ _ _ cx.phi.1) hlt he, fun w G cx => ?_⟩⟩
    have happ := Ctx.appAny (P := Tryd.prog) (ts := 22) (ty := 22) (kb := #[false, false]) (bytes := 40) (c2 := c) (l := ls[i]) (q := p) cx (by kernel_rfl) delta_one (fun M w h => pin_llSl (hΦ M w h.1) hlt he) (by omega) (by omega)
    rw [← hfl] at happ
    obtain ⟨p', cap', w', news, hrun, cx'⟩ := happ
    have hst : Stable (fun M w => Φ1 M w ∧ Elems M w (ds ++ news) (ls.take (i + 1)).flatten) := inferInstance
    exact ⟨p', _, cap', w', hrun, .buf p' (ls.take (i + 1)).flatten.length cap' (ds ++ news) 39 3 :: R1, _, hst, cx'.weak fun M w h => ⟨h.1.1, by rw [hf]; exact h.1.2.append h.2⟩, by unfold I64; omega, _, _, ls.length - (i + 1), hst, fun w G cx => cx, ⟨i + 1, _, by omega, hlt, rfl, rfl, rfl, rfl⟩, by omega⟩
  · have hge := of_decide_eq_false hge
    have hi : i = ls.length := by omega
    subst hi
    rw [List.take_length] at cx ⊢
    exact ⟨sp, sc, ds, rfl, cx.left⟩

def addP (a b : List DeltaD) : List DeltaD := consP (a ++ b)

theorem Add_sl {Φ : PW} [Stable Φ] (p : Option Addr) (cap : Nat) (a : List DeltaD) (q : Option Addr) (cap2 : Nat) (b : List DeltaD) (hΦ : ∀ M w, Φ M w → Sl M w p a) (hΨ : ∀ M w, Φ M w → Sl M w q b) (hc1 : a.length ≤ cap) (hc2 : cap ≤ maxLen) (hc3 : b.length ≤ cap2) (hc4 : cap2 ≤ maxLen)
    (ha : a.length ≤ 400000) (hb : b.length ≤ 400000) (hra : ∀ x ∈ a, x.row.length ≤ 1000000) (hrb : ∀ x ∈ b, x.row.length ≤ 1000000) : GivesSl Φ Tryd.prog F.delta_Add #[.slice p a.length cap, .slice q b.length cap2] (addP a b) id := by
  refine gives_sl (Bdelta_Add_run p a.length cap q b.length cap2) fun W R => ?_
  intro k w G cx
  obtain ⟨cx1, hs⟩ := cx.freezeBlk (α := List DeltaD) (l := [a, b]) (Elems.two (cs := [.slice p a.length cap]) (ds := [.slice q b.length cap2]) (rep_list.2 ⟨p, cap, rfl, hc1, hc2, hΦ _ _ cx.phi⟩) (rep_list.2 ⟨q, cap2, rfl, hc3, hc4, hΨ _ _ cx.phi⟩))
  have hfl : [a, b].flatten = a ++ b := by simp
  have hll : (a ++ b).length ≤ 1000000 := by rw [List.length_append]; omega
  have cx1' : Ctx W w (R ++ G) (fun M w => Φ M w ∧ Sl M w (some ⟨k, 0, none⟩) [a, b]) := cx1.add hs
  obtain ⟨g, o, cs, hq, cx2⟩ := cx1'.pin cx1'.phi.2
  have hcon := Concat_pin (Φ := fun M w => (Φ M w ∧ Sl M w (some ⟨k, 0, none⟩) [a, b]) ∧ Pin g o cs [a, b] M w) (some ⟨k, 0, none⟩) 2 [a, b] g o cs hq (fun M w h => h.2) (by simp) (by rw [hfl]; exact hll)
  rw [hfl] at hcon
  refine hcon.use cx2 fun p1 c1 ds w cx => ?_
  obtain ⟨_, h1, h2⟩ := cx.bufLen 0 rfl
  obtain ⟨cx3, hs3, _⟩ := Ctx.freeze (α := DeltaD) cx.fst cx.phi.2
  refine ⟨p1, _, c1, rfl, R, fun M w => Φ M w ∧ Sl M w p1 (a ++ b), inferInstance, (cx3.add hs3).weak fun M w h => ⟨h.1.1.1, h.2⟩, fun w G cx => ?_⟩
  refine (Consolidate_sl (Φ := fun M w => Φ M w ∧ Sl M w p1 (a ++ b)) p1 c1 (a ++ b) (fun M w h => h.2) hll (fun x hx => ?_)).use cx fun p3 c3 w h1 h2 cx => ⟨p3, _, c3, rfl, R, fun M w => Φ M w ∧ Sl M w p3 (addP a b), inferInstance, cx.weak fun M w h => ⟨h.1.1, h.2⟩, fun w G cx => ⟨p3, c3, rfl, h1, h2, cx.left⟩⟩
  rcases List.mem_append.1 hx with hx | hx
  · exact hra x hx
  · exact hrb x hx

end Go.Proofs.YtnapfhbibikbiaaDoor
end

/-
  STRINGS.BUILDER over what a walk owns; tables that a row lays; rows with laid tables; the decimal form of ints.
-/
section
set_option linter.unusedVariables false
set_option linter.unusedSimpArgs false
namespace Go.Vc
open Go.RowKit Go.Shelf

section
variable {P : Program} {W w w' : World} {S R F : List Own} {Φ Ψ : PW}

/-- what is owned changes, and is owned no more -/
theorem Ctx.lose [Stable Φ] (c : Ctx W w (R ++ S) Φ) (h : Chg (dom R) w w') : Ctx W w' S Φ := by
  have hn := c.nodup
  rw [dom_app, List.nodup_append] at hn
  refine c.go ⟨h.mono fun x hx => by rw [dom_app]; exact List.mem_append_left _ hx, fun b hb => .inl (by rw [dom_app]; exact List.mem_append_right _ hb)⟩ (fun o ho => ?_) hn.2.1
  exact Own.at_keep (c.own o (List.mem_append_right _ ho)) fun b hb => h.block b (c.lt (mem_dom (List.mem_append_right _ ho) hb)) fun hm => hn.2.2 b hm b (mem_dom ho hb) rfl

/-- append of a string's bytes -/
theorem Ctx.appStr [Stable Φ] {p : Option Addr} {n cap : Nat} {cs : List Value} {e : TypeId} (c : Ctx W w (.buf p n cap cs e 1 :: S) Φ) {t u ty : TypeId} {kb : Array Bool} {i : TypeInfo}
    (ht : P.underlying t = some (.slice e)) (hu : P.underlying u = some .string) (hi : P.info? e = some i) (hz : i.zero = some (.int .u8 0)) (hsize : i.size = 1) (hby : i.bytes = 1) (s : ByteArray)
    (hb : n + s.size ≤ 140737488355328) (h63 : n + s.size ≤ maxLen) :
    ∃ p' cap' w', Sem.run P (builtin Builtin.append #[t, u] ty kb #[.slice p n cap, .string s]) w = .ok (.value (.slice p' (n + s.size) cap')) w' ∧ Ctx W w' (.buf p' (n + s.size) cap' (cs ++ Lib.strCells s) e 1 :: S) Φ := by
  have hown := c.own _ (List.mem_cons_self)
  obtain ⟨hcl, hown⟩ := hown
  have hxl : cs.length = n := by simpa using hcl
  have hlen : (cs ++ Lib.strCells s).length = (n + s.size) * 1 := by rw [List.length_append, hxl, Lib.strCells_length, Nat.mul_one]
  have grown : ∀ (old : Nat), old < n + s.size →
      Ctx W (w.drew.alloc (.cells (cs.toArray ++ (Lib.strCells s).toArray ++ Builtin.zeroCells (Value.int .u8 0).cells (grownCap w (n + s.size) old e - (n + s.size))) e))
        (.buf (some ⟨w.heap.size, 0, none⟩) (n + s.size) (grownCap w (n + s.size) old e) (cs ++ Lib.strCells s) e 1 :: S) Φ := by
    intro old ho
    have hge := grownCap_ge w (n + s.size) old e
    have hcm : grownCap w (n + s.size) old e ≤ maxLen := grownCap_le_maxLen w (n + s.size) old e h63
    have h := c.upd (k := 0) (o' := .buf (some ⟨w.heap.size, 0, none⟩) (n + s.size) (grownCap w (n + s.size) old e) (cs ++ Lib.strCells s) e 1) rfl (((Chg.refl _ _).drewN 1).alloc (.cells (cs.toArray ++ (Lib.strCells s).toArray ++ Builtin.zeroCells (Value.int .u8 0).cells (grownCap w (n + s.size) old e - (n + s.size))) e)) (by simp [Own.dom]) (by simp [Own.dom])
      ⟨hlen, .inr ⟨w.heap.size, _, _, rfl, Nat.zero_le _, hp_alloc_new w.drew _, hge, hcm, ?_, ?_⟩⟩
    · exact h
    · have hz1 : (Value.int IntKind.u8 0).cells.size = 1 := rfl
      simp only [Array.size_append, List.size_toArray, size_zeroCells, hz1, hxl, Lib.strCells_length]
      omega
    · simp only [Array.toList_append, List.append_assoc]
      rw [← List.append_assoc, ← hlen]
      exact List.take_left
  rcases hown with ⟨e1, rfl⟩ | ⟨g, cap', cur, e1, _, hg, hnc, hcm, hcs, htake⟩
  · cases e1
    have hx : cs = [] := List.eq_nil_of_length_eq_zero hxl
    subst hx
    by_cases hm : s.size = 0
    · have hn : Lib.strCells s = [] := List.eq_nil_of_length_eq_zero (by rw [Lib.strCells_length]; exact hm)
      refine ⟨none, 0, w, run_app ?_, by rw [hm, hn]; exact c⟩
      have hf := Lib.run_firstCells_string (P := P) w 1 s
      rw [hm] at hf
      simp [Builtin.append_, run_underlying ht, run_underlying hu, sizeOf, typeInfo, hi, hsize, Builtin.lenOf, hm, hf]
    · have hr := run_append_nil_string (P := P) w t u ty e i (.int .u8 0) ht hu hi hz s (by omega) (by omega) (by rw [hby]; omega)
      have hgr := grown 0 (by omega)
      simp only [Nat.zero_add, List.nil_append, Array.empty_append] at hgr ⊢
      have e1 : (s.data.map fun b => Value.int .u8 b.toNat) = (Lib.strCells s).toArray := by
        apply Array.ext'
        simp [Lib.strCells]
      rw [e1] at hr
      exact ⟨_, _, _, run_app hr, hgr⟩
  · cases e1
    have hcs' : cur.size = cap := by simpa using hcs
    have ht' : cur.toList.take n = cs := by simpa using htake
    by_cases hroom : n + s.size ≤ cap
    · have hr := Lib.run_append_room_string (P := P) w t u ty e i ht hu hi hsize g n cap cur hg s hroom (by omega)
      refine ⟨_, _, _, run_app hr, ?_⟩
      have h := c.upd (k := 0) (w' := w.setRow g (cur.toList.take n ++ Lib.strCells s ++ cur.toList.drop (n + s.size)).toArray) (o' := .buf (some ⟨g, 0, none⟩) (n + s.size) cap (cs ++ Lib.strCells s) e 1) rfl ⟨rfl, rfl, rfl, by simp, fun b _ hb => setRow_other w g b _ (by simpa [Own.dom] using hb)⟩ (by simp [Own.dom]) (by simp [Own.dom])
        ⟨hlen, .inr ⟨g, cap, _, rfl, Nat.zero_le _, setRow_heap w g cur _ e _ hg, hroom, hcm, ?_, ?_⟩⟩
      · exact h
      · simp only [List.size_toArray, List.length_append, List.length_take, List.length_drop, Array.length_toList, Lib.strCells_length]
        omega
      · rw [ht', ← hlen]
        exact List.take_left
    · have holds : ∀ j u, cs[j]? = some u → w.cell? ((⟨g, 0, none⟩ : Addr).add j) = some u := by
        intro j u hj
        have hlt : j < cs.length := (List.getElem?_eq_some_iff.1 hj).1
        have h2 : cur[j]? = some u := by
          rw [← ht', List.getElem?_take_of_lt (by omega)] at hj
          simpa using hj
        rw [addr_add, Nat.zero_add]
        simp [World.cell?, hg, h2]
      have hr := Lib.run_append_grow_string (P := P) w t u ty e i (.int .u8 0) ht hu hi hz ⟨g, 0, none⟩ n cap cs (by rw [hsize]; simpa using hxl) holds s (by omega) (by omega) (by rw [hby]; exact growslice_fits (by omega) (by omega))
      exact ⟨_, _, _, run_app hr, grown cap (by omega)⟩

/-- a strings.Builder (of type T, in block b) that holds these bytes (of type e) -/
def Bd (T e : TypeId) (b : Nat) (l : List UInt8) (R : List Own) : Prop :=
  ∃ (pa : Value) (p : Option Addr) (cap : Nat), (pa = .pointer none ∨ pa = .pointer (some ⟨b, 0, none⟩)) ∧ R = [.blk b [pa, .slice p l.length cap] T, .buf p l.length cap (Lib.byteCells l) e 1]

theorem Bd.fresh [Stable Φ] {T e : TypeId} {b : Nat} (c : Ctx W w (.blk b [.pointer none, .slice none 0 0] T :: S) Φ) : Ctx W w ([.blk b [.pointer none, .slice none 0 0] T, .buf none 0 0 [] e 1] ++ S) Φ :=
  ((c.buf0 e 1).perm (List.Perm.swap _ _ _))
theorem Bd.nil {T e : TypeId} {b : Nat} : Bd T e b [] [.blk b [.pointer none, .slice none 0 0] T, .buf none 0 0 [] e 1] := ⟨.pointer none, none, 0, .inl rfl, rfl⟩

end

/-! ### String -/
section
open Go.Proofs
variable {P : Program} {ρ : Ren}

theorem chg_freeze {a w : World} {D : List Nat} (h : Chg D a w) {p : Addr} (hp : p.block ∈ D) (n : Nat) : Chg D a (w.freeze p n) := by
  refine h.trans (T := D) ?_ (fun x hx => .inl hx)
  unfold World.freeze
  split
  · exact Chg.refl _ _
  · refine ⟨rfl, rfl, rfl, by simp, fun k hk hn => ?_⟩
    simp only [Array.getElem?_modify]
    rw [if_neg (fun e => hn (by rw [← e]; exact hp))]

set_option maxHeartbeats 1000000 in
set_option maxRecDepth 100000 in
theorem builder_String_some (L : Lays.n169 P ρ) (X : Builder.Extra P ρ) (b g cap : Nat) (pa : Value) (l : List UInt8) (w : World) (h0 : l ≠ []) (hbk : w.heap[b]? = some (.cells #[pa, .slice (some ⟨g, 0, none⟩) l.length cap] (ρ.t 72) (0, 0)))
    (hown : w.ownsRow 0 (ρ.t 5) 1 (.slice (some ⟨g, 0, none⟩) l.length cap) l.length (Lib.byteCells l)) :
    Calls P (ρ.f 169) #[.pointer (some ⟨b, 0, none⟩)] w fun e w' => e = .returned (.string ⟨l.toArray⟩) ∧ Chg [g] w w' := by
  have hl0 : l.length ≠ 0 := by simpa using h0
  obtain ⟨cur, hg, hnc, hcm, hcs, htake⟩ : ∃ cur, w.heap[g]? = some (.cells cur (ρ.t 5) (0, 0)) ∧ l.length ≤ cap ∧ cap ≤ maxLen ∧ cur.size = cap * 1 ∧ cur.toList.take (l.length * 1) = Lib.byteCells l := by
    rcases hown.2 with ⟨hv, _⟩ | ⟨g', cap', cur, hv, _, r⟩
    · cases hv
    · cases hv; exact ⟨cur, r⟩
  have c1 : w.drew.cell? ⟨b, 1, none⟩ = some (.slice (some ⟨g, 0, none⟩) l.length cap) := by
    have : w.drew.heap[b]? = some (.cells #[pa, .slice (some ⟨g, 0, none⟩) l.length cap] (ρ.t 72) (0, 0)) := hbk
    rw [Lib.cell_of_heap this]; rfl
  have hSD : (Builtin.unsafeSliceData_ #[(ρ.t 37)] (ρ.t 127) #[.slice (some ⟨g, 0, none⟩) l.length cap]).run P w.drew = .ok (.pointer (some ⟨g, 0, none⟩)) w.drew :=
    Lib.run_unsafeSliceData_row _ _ _ _ _ _ (by omega)
  have hUS : (Builtin.unsafeString_ #[(ρ.t 127), (ρ.t 3)] (ρ.t 9) #[.pointer (some ⟨g, 0, none⟩), .int .i64 l.length]).run P w.drew = .ok (.string ⟨l.toArray⟩) (w.drew.freeze ⟨g, 0, none⟩ l.length) := by
    refine Lib.run_unsafeString_row w.drew (ρ.t 127) (ρ.t 3) (ρ.t 9) (ρ.t 5) L.t127 X.cellsByte g cur.size (by have hg' : w.drew.heap[g]? = some (.cells cur (ρ.t 5) (0, 0)) := hg; simp [World.shape?, hg']) l h0 (by omega) (by unfold maxLen at hcm; omega) ?_
    intro j x hx
    have := hown.cells (g := g) rfl j (.int .u8 x.toNat) (by simp [Lib.byteCells, hx])
    exact this
  have mixed := L.mixed
  have t72 := L.t72; have a72 := L.a72; have z72 := L.z72; have v72 := L.v72; have u72 := run_underlying L.t72
  have t70 := L.t70; have a70 := L.a70; have z70 := L.z70; have v70 := L.v70; have u70 := run_underlying L.t70
  have t37 := L.t37; have a37 := L.a37; have z37 := L.z37; have v37 := L.v37; have u37 := run_underlying L.t37
  have t127 := L.t127; have a127 := L.a127; have z127 := L.z127; have v127 := L.v127; have u127 := run_underlying L.t127
  have t3 := L.t3; have a3 := L.a3; have z3 := L.z3; have v3 := L.v3; have u3 := run_underlying L.t3
  have t9 := L.t9; have a9 := L.a9; have z9 := L.z9; have v9 := L.v9; have u9 := run_underlying L.t9
  have t5 := X.t5; have a5 := X.a5; have z5 := X.z5; have v5 := X.v5; have u5 := run_underlying X.t5
  go_enter L.f169, Body.n169_ntmps ρ
  go_wp2
  go_region_o
  all_goals (go_wp2; go_ret; exact ⟨rfl, chg_freeze ((Chg.refl _ _).drewN 1) (p := ⟨g, 0, none⟩) (by simp) _⟩)

set_option maxHeartbeats 2000000 in
set_option maxRecDepth 100000 in
theorem builder_String_nil (L : Lays.n169 P ρ) (X : Builder.Extra P ρ) (b : Nat) (p : Value) (w : World) (hbk : w.heap[b]? = some (.cells #[p, .slice none 0 0] (ρ.t 72) (0, 0))) :
    Calls P (ρ.f 169) #[.pointer (some ⟨b, 0, none⟩)] w fun e w' => e = .returned (.string ⟨#[]⟩) ∧ Chg [] w w' := by
  have hUS := Any.unsafeString_none L X
  have c1 : w.drew.cell? ⟨b, 1, none⟩ = some (.slice none 0 0) := by
    have : w.drew.heap[b]? = some (.cells #[p, .slice none 0 0] (ρ.t 72) (0, 0)) := hbk
    rw [Lib.cell_of_heap this]; rfl
  have hSD : (Builtin.unsafeSliceData_ #[(ρ.t 37)] (ρ.t 127) #[.slice none 0 0]).run P w.drew = .ok (.pointer none) w.drew := rfl
  have mixed := L.mixed
  have t72 := L.t72; have a72 := L.a72; have z72 := L.z72; have v72 := L.v72; have u72 := run_underlying L.t72
  have t70 := L.t70; have a70 := L.a70; have z70 := L.z70; have v70 := L.v70; have u70 := run_underlying L.t70
  have t37 := L.t37; have a37 := L.a37; have z37 := L.z37; have v37 := L.v37; have u37 := run_underlying L.t37
  have t127 := L.t127; have a127 := L.a127; have z127 := L.z127; have v127 := L.v127; have u127 := run_underlying L.t127
  have t3 := L.t3; have a3 := L.a3; have z3 := L.z3; have v3 := L.v3; have u3 := run_underlying L.t3
  have t9 := L.t9; have a9 := L.a9; have z9 := L.z9; have v9 := L.v9; have u9 := run_underlying L.t9
  have t5 := X.t5; have a5 := X.a5; have z5 := X.z5; have v5 := X.v5; have u5 := run_underlying X.t5
  go_enter L.f169, Body.n169_ntmps ρ
  go_wp2
  go_region_o
  all_goals (go_wp2; go_ret; exact ⟨rfl, (Chg.refl _ _).drewN 1⟩)

set_option maxHeartbeats 2000000 in
set_option maxRecDepth 100000 in
theorem builder_String_noroom (L : Lays.n169 P ρ) (X : Builder.Extra P ρ) (b g : Nat) (p : Value) (cur : Array Value) (w : World) (hbk : w.heap[b]? = some (.cells #[p, .slice (some ⟨g, 0, none⟩) 0 0] (ρ.t 72) (0, 0))) (hg : w.heap[g]? = some (.cells cur (ρ.t 5) (0, 0))) :
    Calls P (ρ.f 169) #[.pointer (some ⟨b, 0, none⟩)] w fun e w' => e = .returned (.string ⟨#[]⟩) ∧ Chg [] w w' := by
  have hUS := Any.unsafeString_none L X
  have hlt : b < w.heap.size := by
    rcases Nat.lt_or_ge b w.heap.size with h' | h'
    · exact h'
    · simp [Array.getElem?_eq_none h'] at hbk
  have c1 : w.drew.cell? ⟨b, 1, none⟩ = some (.slice (some ⟨g, 0, none⟩) 0 0) := by
    have : w.drew.heap[b]? = some (.cells #[p, .slice (some ⟨g, 0, none⟩) 0 0] (ρ.t 72) (0, 0)) := hbk
    rw [Lib.cell_of_heap this]; rfl
  have hSD : (Builtin.unsafeSliceData_ #[(ρ.t 37)] (ρ.t 127) #[.slice (some ⟨g, 0, none⟩) 0 0]).run P w.drew = .ok (.pointer (some ⟨w.drew.heap.size, 0, none⟩)) (w.drew.alloc (.view ⟨g, 0, none⟩ (ρ.t 5))) :=
    Lib.run_unsafeSliceData_zero w.drew _ _ (ρ.t 5) L.t127 ⟨g, 0, none⟩ 0 ((ρ.t 5), cur.size) (by have hg' : w.drew.heap[g]? = some (.cells cur (ρ.t 5) (0, 0)) := hg; simp [World.shape?, hg'])
  have c2 : (w.drew.alloc (.view ⟨g, 0, none⟩ (ρ.t 5))).cell? ⟨b, 1, none⟩ = some (.slice (some ⟨g, 0, none⟩) 0 0) := by
    have : (w.drew.alloc (.view ⟨g, 0, none⟩ (ρ.t 5))).heap[b]? = _ := (Lib.alloc_old w.drew _ b hlt).trans hbk
    rw [Lib.cell_of_heap this]; rfl
  have c3 : (w.alloc (.view ⟨g, 0, none⟩ (ρ.t 5))).drew.cell? ⟨b, 1, none⟩ = some (.slice (some ⟨g, 0, none⟩) 0 0) := c2
  have c0 : w.cell? ⟨b, 1, none⟩ = some (.slice (some ⟨g, 0, none⟩) 0 0) := c1
  have mixed := L.mixed
  have t72 := L.t72; have a72 := L.a72; have z72 := L.z72; have v72 := L.v72; have u72 := run_underlying L.t72
  have t70 := L.t70; have a70 := L.a70; have z70 := L.z70; have v70 := L.v70; have u70 := run_underlying L.t70
  have t37 := L.t37; have a37 := L.a37; have z37 := L.z37; have v37 := L.v37; have u37 := run_underlying L.t37
  have t127 := L.t127; have a127 := L.a127; have z127 := L.z127; have v127 := L.v127; have u127 := run_underlying L.t127
  have t3 := L.t3; have a3 := L.a3; have z3 := L.z3; have v3 := L.v3; have u3 := run_underlying L.t3
  have t9 := L.t9; have a9 := L.a9; have z9 := L.z9; have v9 := L.v9; have u9 := run_underlying L.t9
  have t5 := X.t5; have a5 := X.a5; have z5 := X.z5; have v5 := X.v5; have u5 := run_underlying X.t5
  go_enter L.f169, Body.n169_ntmps ρ
  go_wp2
  go_region_o
  all_goals (go_wp2; go_ret; exact ⟨rfl, ((Chg.refl _ _).drewN 1).alloc _⟩)

set_option maxHeartbeats 2000000 in
set_option maxRecDepth 100000 in
theorem builder_String_room (L : Lays.n169 P ρ) (X : Builder.Extra P ρ) (b g cap : Nat) (p : Value) (w : World) (hc0 : cap ≠ 0) (hbk : w.heap[b]? = some (.cells #[p, .slice (some ⟨g, 0, none⟩) 0 cap] (ρ.t 72) (0, 0))) :
    Calls P (ρ.f 169) #[.pointer (some ⟨b, 0, none⟩)] w fun e w' => e = .returned (.string ⟨#[]⟩) ∧ Chg [] w w' := by
  have hUS := Any.unsafeString_none L X
  have c1 : w.drew.cell? ⟨b, 1, none⟩ = some (.slice (some ⟨g, 0, none⟩) 0 cap) := by
    have : w.drew.heap[b]? = some (.cells #[p, .slice (some ⟨g, 0, none⟩) 0 cap] (ρ.t 72) (0, 0)) := hbk
    rw [Lib.cell_of_heap this]; rfl
  have hSD : (Builtin.unsafeSliceData_ #[(ρ.t 37)] (ρ.t 127) #[.slice (some ⟨g, 0, none⟩) 0 cap]).run P w.drew = .ok (.pointer (some ⟨g, 0, none⟩)) w.drew :=
    Lib.run_unsafeSliceData_row _ _ _ _ _ _ hc0
  clear hc0
  have mixed := L.mixed
  have t72 := L.t72; have a72 := L.a72; have z72 := L.z72; have v72 := L.v72; have u72 := run_underlying L.t72
  have t70 := L.t70; have a70 := L.a70; have z70 := L.z70; have v70 := L.v70; have u70 := run_underlying L.t70
  have t37 := L.t37; have a37 := L.a37; have z37 := L.z37; have v37 := L.v37; have u37 := run_underlying L.t37
  have t127 := L.t127; have a127 := L.a127; have z127 := L.z127; have v127 := L.v127; have u127 := run_underlying L.t127
  have t3 := L.t3; have a3 := L.a3; have z3 := L.z3; have v3 := L.v3; have u3 := run_underlying L.t3
  have t9 := L.t9; have a9 := L.a9; have z9 := L.z9; have v9 := L.v9; have u9 := run_underlying L.t9
  have t5 := X.t5; have a5 := X.a5; have z5 := X.z5; have v5 := X.v5; have u5 := run_underlying X.t5
  go_enter L.f169, Body.n169_ntmps ρ
  go_wp2
  go_region_o
  all_goals (go_wp2; go_ret; exact ⟨rfl, (Chg.refl _ _).drewN 1⟩)

/-- (*strings.Builder).String: the builder is given up -/
theorem Bd.string {W w : World} {S R : List Own} {Φ : PW} [Stable Φ] {b : Nat} {l : List UInt8} (L : Lays.n169 P ρ) (X : Builder.Extra P ρ) (h : Bd (ρ.t 72) (ρ.t 5) b l R) (c : Ctx W w (R ++ S) Φ) {K : Ending → World → Prop}
    (hk : ∀ w', Ctx W w' S Φ → K (.returned (.string ⟨l.toArray⟩)) w') : Calls P (ρ.f 169) #[.pointer (some ⟨b, 0, none⟩)] w K := by
  obtain ⟨pa, p, cap, hpa, rfl⟩ := h
  have hbk : w.heap[b]? = some (.cells #[pa, .slice p l.length cap] (ρ.t 72) (0, 0)) := c.blk 0 rfl
  have hown : w.ownsRow 0 (ρ.t 5) 1 (.slice p l.length cap) l.length (Lib.byteCells l) := c.own _ (List.mem_cons_of_mem _ List.mem_cons_self)
  by_cases h0 : l = []
  · subst h0
    rcases hown.2 with ⟨e, _⟩ | ⟨g, cap', cur, e, _, hg, _⟩
    · cases e
      exact (builder_String_nil L X b pa w hbk).mono fun e w' ⟨he, hc⟩ => by subst he; exact hk w' (c.lose (hc.mono (by simp)))
    · cases e
      by_cases hc0 : cap = 0
      · subst hc0
        exact (builder_String_noroom L X b g pa cur w hbk hg).mono fun e w' ⟨he, hc⟩ => by subst he; exact hk w' (c.lose (hc.mono (by simp)))
      · exact (builder_String_room L X b g cap pa w hc0 hbk).mono fun e w' ⟨he, hc⟩ => by subst he; exact hk w' (c.lose (hc.mono (by simp)))
  · have hl0 : l.length ≠ 0 := by simpa using h0
    obtain ⟨g, rfl⟩ : ∃ g, p = some ⟨g, 0, none⟩ := by
      rcases hown.2 with ⟨_, hz⟩ | ⟨g, cap', cur, hv, _⟩
      · exact absurd hz hl0
      · cases hv; exact ⟨g, rfl⟩
    exact (builder_String_some L X b g cap pa l w h0 hbk hown).mono fun e w' ⟨he, hc⟩ => by subst he; exact hk w' (c.lose (hc.mono (by simp [dom, Own.dom])))

end

/-! ### tables -/
/-- a table of the library's, in a block that nobody writes -/
def Tab (P : Program) (name : String) (k : IntKind) (zs : List Int) : PW := fun M w => Lib.TabIs P w name k zs ∧ ∀ g, P.globalNamed name = some g → g ∉ M

instance instStableTab (P : Program) (name : String) (k : IntKind) (zs : List Int) : Stable (Tab P name k zs) := ⟨fun {M M' w w'} hs h => by
  obtain ⟨h1, h2⟩ := h
  unfold Lib.TabIs World.var? at h1
  cases hg : P.globalNamed name with
  | none => simp [hg] at h1
  | some g =>
    simp only [hg, Option.bind_some] at h1
    have hlt : g < w.heap.size := by
      rcases Nat.lt_or_ge g w.heap.size with h' | h'
      · exact h'
      · rw [Array.getElem?_eq_none h'] at h1; simp at h1
    refine ⟨?_, fun g' hg' hm => ?_⟩
    · unfold Lib.TabIs World.var?
      simp only [hg, Option.bind_some]
      rw [hs.chg.block g hlt (h2 g hg)]
      exact h1
    · rw [hg] at hg'
      cases hg'
      rcases hs.sub g hm with h | h
      · exact h2 g hg h
      · omega⟩

theorem Tab.start {P : Program} {name : String} {k : IntKind} {zs : List Int} {w : World} (h : Lib.TabIs P w name k zs) : Tab P name k zs [] w := ⟨h, fun _ _ => by simp⟩

theorem chg_grow {w : World} {k : Nat} {os : Array Obj} : Chg [] w (Sort.grow (w.drewN k) os) :=
  ⟨rfl, rfl, rfl, by show w.heap.size ≤ (w.heap ++ os).size; rw [Array.size_append]; omega, fun j hj _ => by
    show (w.heap ++ os)[j]? = w.heap[j]?
    rw [Array.getElem?_append_left hj]⟩

/-- strconv.Itoa -/
theorem itoa_in {P : Program} {f : FuncId} {Φ : PW} [Stable Φ] {name : String} (hI : ∀ (n : Int), -9223372036854775808 ≤ n → n ≤ 9223372036854775807 → ∀ w, Lib.TabIs P w name .u64 Lib.pow10Tab →
      Calls P f #[.int .i64 n] w fun e w' => e = .returned (.string ⟨(Lib.itoa n).toArray⟩) ∧ ∃ k os, w' = Sort.grow (w.drewN k) os)
    (hΦ : ∀ M w, Φ M w → Tab P name .u64 Lib.pow10Tab M w) (n : Int) (h : I64 n) : GivesIn Φ P f #[.int .i64 n] (.string ⟨(Lib.itoa n).toArray⟩) :=
  ⟨fun W w S c => (hI n (by unfold I64 at h; omega) (by unfold I64 at h; omega) w (hΦ _ _ c.phi).1).mono fun e w' ⟨he, k, os, hw⟩ => ⟨he, by rw [hw]; exact c.call chg_grow⟩⟩

/-! ### rows with laid tables -/
open Go.ChangeShapes Go.WideShapes Go.ChangeAt

/-- the row: true, and what came in reads as it did; tables are laid -/
theorem lawTrueLaid {H : Type} {enc : TypeId × Value → H} {C : Checked} {os : Os} {f : FuncId} {fn : Func} {s : ChangeSpec} {conds : List PathCond} {apart fresh handsOn : Bool} {tb : TypeId} {ld : List (String × DataW Unit)}
    (own : ownKnob C.prog.godebug = none) (started : os.Started) (noInit : C.prog.inits.idxOf? f = none) (hfn : C.prog.funcs[f]? = some fn)
    (laid : laidOutB C.prog = true) (hvars : s.vars = []) (hspec : ∀ ds : List (DataW H), ds.length = fn.params.toList.length → (s.fn H (ds ++ [])).results = [.lit (.bool true)] ∧ (s.fn H (ds ++ [])).args = ds ∧ (s.fn H (ds ++ [])).vars = [])
    (hres : fn.resultTypes = #[tb]) (htb : C.prog.underlying tb = some .bool)
    (types : (fn.params.toList.all fun t => C.prog.readableRec t && decide (t < C.prog.types.size)) = true)
    (witness : ∃ (w : World) (tape : Tape) (i : Input), w.os = os ∧ (w.forCall tape i).Shaped C.prog ∧ i.vars = [] ∧ Input.okWide C.prog (w.forCall tape i) .any w.heap.size f i ∧
      ((s.pre enc C.prog fn conds apart (w.forCall tape i).memory i.args ∧ laidMetH C.prog ld (w.forCall tape i).memory) ∧ sizedMet enc C.prog fn (OpenSpec.ofChange s) apart (w.forCall tape i).memory i.args) ∧ Assume.holds {} C.prog (lone (Frame.enter C.prog f i.args .normal) [] (w.forCall tape i)))
    (contract : ∀ (W : World) (base : Nat) (args : Array Value) (ds : List (DataW H)) (p : List MemPlace),
      (∀ (j : Nat) t v, fn.params[j]? = some t → args[j]? = some v → Value.okWide C.prog W .any base t v) →
      DataW.TrodAll enc C.prog W 0 (fun _ => true) true fn.params.toList args.toList ds p →
      conds.all (PathCond.test C.prog ⟨fn.params.toList, ds, s.plain.varTypes C.prog, []⟩) = true → laidMetH C.prog ld W →
      Calls C.prog f args W fun e W' => ∃ u, e = .returned u ∧ (u = .bool true ∧ Chg [] W W')) :
    ReturnsInHanded {} C os f .any (fun w args => (s.pre enc C.prog fn conds apart w args ∧ laidMetH C.prog ld w) ∧ sizedMet enc C.prog fn (OpenSpec.ofChange s) apart w args) (s.post enc C.prog fn apart fresh handsOn false) := by
  refine returnsInHanded_of_change_and (X := fun w _ => laidMetH C.prog ld w) (fun _ _ _ hh h => h.of_heap hh) own started noInit hfn witness ?_
  intro W base args ds gs before hval hW hcnd _ hL _
  have hW' := hW
  obtain ⟨p, q, hA, hV, rfl, _, _⟩ := hW
  rw [hvars] at hV
  obtain ⟨rfl, rfl⟩ := trodVars_none hV
  simp only [List.append_nil] at hW'
  refine (contract W base args ds p hval hA hcnd hL).mono fun e W' ⟨u, he, hu, hc⟩ => ?_
  subst he; subst hu
  have hb : Below W.heap.size W W' := hc.below (Nat.le_refl _) (by simp)
  obtain ⟨e1, e2, e3⟩ := hspec ds (trodAll_length hA).2
  refine ⟨_, rfl, ds, [], p, [], p, [], hW', ?_, ?_, ?_, hb.frame _, fun h => by cases h⟩
  · rw [e1, hres]
    exact trodAll_mk1 (t := tb) (v := .bool true) ⟨1, by simp [DataW.trod, Value.cells, htb]⟩
  · rw [e2]
    exact trodAll_below laid hb types hA (fun x hx => by simpa using hW'.lt x hx)
  · rw [e3, hvars]
    rfl

end Go.Vc
end

/-
  Layings of the kit's shelf at this seat's numbers (printed by the kit's own tools).
-/
section
set_option linter.unusedVariables false
namespace Go.Proofs
open Go.Shelf

def Tryd.lays169_ren : Go.Shelf.Ren := ⟨fun | 169 => 79 | n => n, fun | 70 => 77 | 9 => 9 | 0 => 0 | 72 => 79 | 37 => 71 | 127 => 93 | 3 => 3 | 5 => 5 | n => n, fun | n => n⟩
theorem Tryd.lays169 : Go.Proofs.Lays.n169 Tryd.prog Tryd.lays169_ren := {
  mixed := by kernel_rfl
  f169 := Tryd.func79.trans (congrArg some (by kernel_rfl))
  t0 := Tryd.underlying0
  a0 := Tryd.isAgg0
  z0 := Tryd.sizeOf0
  v0 := Tryd.zeroValue0
  t3 := Tryd.underlying3
  a3 := Tryd.isAgg3
  z3 := Tryd.sizeOf3
  v3 := Tryd.zeroValue3
  t9 := Tryd.underlying9
  a9 := Tryd.isAgg9
  z9 := Tryd.sizeOf9
  v9 := Tryd.zeroValue9
  t37 := Tryd.underlying71
  a37 := Tryd.isAgg71
  z37 := Tryd.sizeOf71
  v37 := Tryd.zeroValue71
  t70 := Tryd.underlying77
  a70 := Tryd.isAgg77
  z70 := Tryd.sizeOf77
  v70 := Tryd.zeroValue77
  t72 := Tryd.underlying79
  a72 := Tryd.isAgg79
  z72 := Tryd.sizeOf79
  v72 := Tryd.zeroValue79
  t127 := Tryd.underlying93
  a127 := Tryd.isAgg93
  z127 := Tryd.sizeOf93
  v127 := Tryd.zeroValue93 }
theorem Tryd.Builder_Extra_169 : Builder.Extra Tryd.prog Tryd.lays169_ren := {
  sizeBuilder := by kernel_rfl
  liesBuilder := by kernel_rfl
  t5 := Tryd.underlying5
  a5 := Tryd.isAgg5
  z5 := Tryd.sizeOf5
  v5 := Tryd.zeroValue5
  infoByte := by kernel_rfl
  cellsByte := by kernel_rfl
  sizeByte := by kernel_rfl
  neB5 := by decide }
def Tryd.laysM171_ren : Go.Shelf.Ren := ⟨fun | 171 => 94 | 243 => 104 | 246 => 107 | 283 => 110 | 284 => 111 | 285 => 112 | 286 => 113 | 129 => 116 | 317 => 115 | 318 => 117 | 319 => 118 | 320 => 119 | 337 => 120 | 338 => 121 | n => n, fun | 3 => 3 | 9 => 9 | 2 => 2 | 4 => 4 | 171 => 104 | 0 => 0 | 53 => 105 | 37 => 71 | 5 => 5 | 173 => 108 | 212 => 112 | 51 => 113 | 20 => 20 | 213 => 114 | 46 => 102 | 232 => 117 | 233 => 118 | n => n, fun | 17 => 1 | 18 => 2 | 19 => 3 | n => n⟩
theorem Tryd.laysM171 : Go.Proofs.LaysM.n171 Tryd.prog Tryd.laysM171_ren := {
  mixed := by kernel_rfl
  f129 := Tryd.func116.trans (congrArg some (by kernel_rfl))
  f171 := Tryd.func94.trans (congrArg some (by kernel_rfl))
  f243 := Tryd.func104.trans (congrArg some (by kernel_rfl))
  f246 := Tryd.func107.trans (congrArg some (by kernel_rfl))
  f283 := Tryd.func110.trans (congrArg some (by kernel_rfl))
  f284 := Tryd.func111.trans (congrArg some (by kernel_rfl))
  f285 := Tryd.func112.trans (congrArg some (by kernel_rfl))
  f286 := Tryd.func113.trans (congrArg some (by kernel_rfl))
  f317 := Tryd.func115.trans (congrArg some (by kernel_rfl))
  f318 := Tryd.func117.trans (congrArg some (by kernel_rfl))
  f319 := Tryd.func118.trans (congrArg some (by kernel_rfl))
  f320 := Tryd.func119.trans (congrArg some (by kernel_rfl))
  f337 := Tryd.func120.trans (congrArg some (by kernel_rfl))
  f338 := Tryd.func121.trans (congrArg some (by kernel_rfl))
  t0 := Tryd.underlying0
  a0 := Tryd.isAgg0
  z0 := Tryd.sizeOf0
  v0 := Tryd.zeroValue0
  t2 := Tryd.underlying2
  a2 := Tryd.isAgg2
  z2 := Tryd.sizeOf2
  v2 := Tryd.zeroValue2
  t3 := Tryd.underlying3
  a3 := Tryd.isAgg3
  z3 := Tryd.sizeOf3
  v3 := Tryd.zeroValue3
  t4 := Tryd.underlying4
  a4 := Tryd.isAgg4
  z4 := Tryd.sizeOf4
  v4 := Tryd.zeroValue4
  t5 := Tryd.underlying5
  a5 := Tryd.isAgg5
  z5 := Tryd.sizeOf5
  v5 := Tryd.zeroValue5
  t9 := Tryd.underlying9
  a9 := Tryd.isAgg9
  z9 := Tryd.sizeOf9
  v9 := Tryd.zeroValue9
  t20 := Tryd.underlying20
  a20 := Tryd.isAgg20
  z20 := Tryd.sizeOf20
  v20 := Tryd.zeroValue20
  t37 := Tryd.underlying71
  a37 := Tryd.isAgg71
  z37 := Tryd.sizeOf71
  v37 := Tryd.zeroValue71
  t46 := Tryd.underlying102
  a46 := Tryd.isAgg102
  z46 := Tryd.sizeOf102
  v46 := Tryd.zeroValue102
  t51 := Tryd.underlying113
  a51 := Tryd.isAgg113
  z51 := Tryd.sizeOf113
  v51 := Tryd.zeroValue113
  t53 := Tryd.underlying105
  a53 := Tryd.isAgg105
  z53 := Tryd.sizeOf105
  v53 := Tryd.zeroValue105
  t171 := Tryd.underlying104
  a171 := Tryd.isAgg104
  z171 := Tryd.sizeOf104
  v171 := Tryd.zeroValue104
  t173 := Tryd.underlying108
  a173 := Tryd.isAgg108
  z173 := Tryd.sizeOf108
  v173 := Tryd.zeroValue108
  t212 := Tryd.underlying112
  a212 := Tryd.isAgg112
  z212 := Tryd.sizeOf112
  v212 := Tryd.zeroValue112
  t213 := Tryd.underlying114
  a213 := Tryd.isAgg114
  z213 := Tryd.sizeOf114
  t232 := Tryd.underlying117
  a232 := Tryd.isAgg117
  z232 := Tryd.sizeOf117
  v232 := Tryd.zeroValue117
  t233 := Tryd.underlying118
  a233 := Tryd.isAgg118
  z233 := Tryd.sizeOf118
  v233 := Tryd.zeroValue118
  g17 := by kernel_rfl
  g18 := by kernel_rfl
  g19 := by kernel_rfl
  i0 := by kernel_rfl
  i2 := by kernel_rfl
  i3 := by kernel_rfl
  i4 := by kernel_rfl
  i5 := by kernel_rfl
  i9 := by kernel_rfl
  i20 := by kernel_rfl
  i37 := by kernel_rfl
  i46 := by kernel_rfl
  i51 := by kernel_rfl
  i53 := by kernel_rfl
  i171 := by kernel_rfl
  i173 := by kernel_rfl
  i212 := by kernel_rfl
  i232 := by kernel_rfl
  i233 := by kernel_rfl
  m17 := by kernel_rfl
  m18 := by kernel_rfl
  m19 := by kernel_rfl }
def Tryd.lays171_ren : Go.Shelf.Ren := ⟨fun | 171 => 94 | 243 => 104 | 246 => 107 | 283 => 110 | 284 => 111 | 285 => 112 | 286 => 113 | 129 => 116 | 317 => 115 | 318 => 117 | 319 => 118 | 320 => 119 | 337 => 120 | 338 => 121 | n => n, fun | 3 => 3 | 9 => 9 | 2 => 2 | 4 => 4 | 171 => 104 | 0 => 0 | 53 => 105 | 37 => 71 | 5 => 5 | 173 => 108 | 212 => 112 | 51 => 113 | 20 => 20 | 213 => 114 | 46 => 102 | 232 => 117 | 233 => 118 | n => n, fun | 17 => 1 | 18 => 2 | 19 => 3 | n => n⟩
theorem Tryd.lays171 : Go.Proofs.Lays.n171 Tryd.prog Tryd.lays171_ren := {
  mixed := by kernel_rfl
  f129 := Tryd.func116.trans (congrArg some (by kernel_rfl))
  f171 := Tryd.func94.trans (congrArg some (by kernel_rfl))
  f243 := Tryd.func104.trans (congrArg some (by kernel_rfl))
  f246 := Tryd.func107.trans (congrArg some (by kernel_rfl))
  f283 := Tryd.func110.trans (congrArg some (by kernel_rfl))
  f284 := Tryd.func111.trans (congrArg some (by kernel_rfl))
  f285 := Tryd.func112.trans (congrArg some (by kernel_rfl))
  f286 := Tryd.func113.trans (congrArg some (by kernel_rfl))
  f317 := Tryd.func115.trans (congrArg some (by kernel_rfl))
  f318 := Tryd.func117.trans (congrArg some (by kernel_rfl))
  f319 := Tryd.func118.trans (congrArg some (by kernel_rfl))
  f320 := Tryd.func119.trans (congrArg some (by kernel_rfl))
  f337 := Tryd.func120.trans (congrArg some (by kernel_rfl))
  f338 := Tryd.func121.trans (congrArg some (by kernel_rfl))
  t0 := Tryd.underlying0
  a0 := Tryd.isAgg0
  z0 := Tryd.sizeOf0
  v0 := Tryd.zeroValue0
  t2 := Tryd.underlying2
  a2 := Tryd.isAgg2
  z2 := Tryd.sizeOf2
  v2 := Tryd.zeroValue2
  t3 := Tryd.underlying3
  a3 := Tryd.isAgg3
  z3 := Tryd.sizeOf3
  v3 := Tryd.zeroValue3
  t4 := Tryd.underlying4
  a4 := Tryd.isAgg4
  z4 := Tryd.sizeOf4
  v4 := Tryd.zeroValue4
  t5 := Tryd.underlying5
  a5 := Tryd.isAgg5
  z5 := Tryd.sizeOf5
  v5 := Tryd.zeroValue5
  t9 := Tryd.underlying9
  a9 := Tryd.isAgg9
  z9 := Tryd.sizeOf9
  v9 := Tryd.zeroValue9
  t20 := Tryd.underlying20
  a20 := Tryd.isAgg20
  z20 := Tryd.sizeOf20
  v20 := Tryd.zeroValue20
  t37 := Tryd.underlying71
  a37 := Tryd.isAgg71
  z37 := Tryd.sizeOf71
  v37 := Tryd.zeroValue71
  t46 := Tryd.underlying102
  a46 := Tryd.isAgg102
  z46 := Tryd.sizeOf102
  v46 := Tryd.zeroValue102
  t51 := Tryd.underlying113
  a51 := Tryd.isAgg113
  z51 := Tryd.sizeOf113
  v51 := Tryd.zeroValue113
  t53 := Tryd.underlying105
  a53 := Tryd.isAgg105
  z53 := Tryd.sizeOf105
  v53 := Tryd.zeroValue105
  t171 := Tryd.underlying104
  a171 := Tryd.isAgg104
  z171 := Tryd.sizeOf104
  v171 := Tryd.zeroValue104
  t173 := Tryd.underlying108
  a173 := Tryd.isAgg108
  z173 := Tryd.sizeOf108
  v173 := Tryd.zeroValue108
  t212 := Tryd.underlying112
  a212 := Tryd.isAgg112
  z212 := Tryd.sizeOf112
  v212 := Tryd.zeroValue112
  t213 := Tryd.underlying114
  a213 := Tryd.isAgg114
  z213 := Tryd.sizeOf114
  t232 := Tryd.underlying117
  a232 := Tryd.isAgg117
  z232 := Tryd.sizeOf117
  v232 := Tryd.zeroValue117
  t233 := Tryd.underlying118
  a233 := Tryd.isAgg118
  z233 := Tryd.sizeOf118
  v233 := Tryd.zeroValue118
  g17 := by kernel_rfl
  g18 := by kernel_rfl
  g19 := by kernel_rfl }
def Tryd.laysNm220_ren : Go.Shelf.Ren := ⟨fun | 20 => 71 | n => n, fun | 22 => 43 | 3 => 3 | 4 => 4 | 0 => 0 | n => n, fun | n => n⟩
theorem Tryd.laysNm220 : Go.Proofs.Lays2.n20 Tryd.prog Tryd.laysNm220_ren := {
  mixed := by kernel_rfl
  f20 := Tryd.func71.trans (congrArg some (by kernel_rfl))
  t0 := Tryd.underlying0
  a0 := Tryd.isAgg0
  z0 := Tryd.sizeOf0
  v0 := Tryd.zeroValue0
  t3 := Tryd.underlying3
  a3 := Tryd.isAgg3
  z3 := Tryd.sizeOf3
  v3 := Tryd.zeroValue3
  t4 := Tryd.underlying4
  a4 := Tryd.isAgg4
  z4 := Tryd.sizeOf4
  v4 := Tryd.zeroValue4
  t22 := Tryd.underlying43
  a22 := Tryd.isAgg43
  z22 := Tryd.sizeOf43
  v22 := Tryd.zeroValue43
  i3 := by kernel_rfl }

end Go.Proofs
end

/-
  The walks of strings.Builder, of the decimal form of ints, and of the encodings of ints and texts.
-/
section
set_option linter.unusedVariables false
set_option linter.unusedSimpArgs false
namespace Go.Proofs.YtnapfhbibikbiaaDoor
open Go.Vc


abbrev BdT (b : Nat) (l : List UInt8) (R : List Own) : Prop := Bd 79 5 b l R

theorem bd_info : ∃ j, Tryd.prog.info? 79 = some j ∧ j.size = 2 := by
  have h : (Tryd.prog.info? 79).map (·.size) = some 2 := by kernel_rfl
  exact Option.map_eq_some_iff.1 h

set_option maxHeartbeats 1000000 in
set_option maxRecDepth 100000 in
theorem copyCheck_used (b : Nat) (w : World) (h0 : w.cell? ⟨b, 0, none⟩ = some (.pointer (some ⟨b, 0, none⟩))) :
    Calls Tryd.prog 93 #[.pointer (some ⟨b, 0, none⟩)] w fun e w' => e = .returned (.tuple #[]) ∧ w' = w := by
  obtain ⟨j, hj, _⟩ := bd_info
  go_enter Tryd.func93, Tryd.ntmps93
  go_wp2
  rw [Lib.run_neq_ptr_same w _ Tryd.underlying77 hj]
  go_wp2
  go_end0
  exact ⟨rfl, rfl⟩

set_option maxHeartbeats 1000000 in
set_option maxRecDepth 100000 in
theorem copyCheck_fresh (b : Nat) (w : World) (h0 : w.cell? ⟨b, 0, none⟩ = some (.pointer none)) (hsh : w.shape? b = some (79, 2)) (hfz : w.frozen? ⟨b, 0, none⟩ = false) :
    Calls Tryd.prog 93 #[.pointer (some ⟨b, 0, none⟩)] w fun e w' => e = .returned (.tuple #[]) ∧ w' = w.setCell ⟨b, 0, none⟩ (.pointer (some ⟨b, 0, none⟩)) := by
  obtain ⟨j, hj, hjs⟩ := bd_info
  go_enter Tryd.func93, Tryd.ntmps93
  go_wp2
  rw [Lib.run_to_unsafe w ⟨b, 0, none⟩ Tryd.underlying77 Tryd.underlying99 hj (by rw [hjs]; decide) hsh (Nat.zero_lt_succ 1)]
  simp only [Result.andThen]
  rw [Oper.upon_value]
  go_wp2
  rw [run_callFunc_extern Tryd.func103 (by kernel_rfl) (by kernel_rfl) (by kernel_rfl) (e := Extern.AbiNoEscape.same) (by kernel_rfl)]
  rw [Lib.run_noEscape]
  simp only [Result.andThen]
  rw [Oper.upon_value]
  go_wp2
  rw [Lib.run_from_unsafe w ⟨b, 0, none⟩ Tryd.underlying99 Tryd.underlying77 hj hsh (by kernel_rfl)]
  simp only [Result.andThen]
  rw [Oper.upon_value]
  go_wp2
  go_end0
  exact ⟨rfl, rfl⟩

theorem copyCheck_use {W w : World} {S : List Own} {Φ : PW} [Stable Φ] {b : Nat} {pa v : Value} (hp : pa = .pointer none ∨ pa = .pointer (some ⟨b, 0, none⟩)) (c : Ctx W w (.blk b [pa, v] 79 :: S) Φ) {K : Ending → World → Prop}
    (hk : ∀ w', Ctx W w' (.blk b [.pointer (some ⟨b, 0, none⟩), v] 79 :: S) Φ → K (.returned (.tuple #[])) w') : Calls Tryd.prog F.strings_Builder_copyCheck #[.pointer (some ⟨b, 0, none⟩)] w K := by
  have hb : w.heap[b]? = some (.cells #[pa, v] 79 (0, 0)) := c.blk 0 rfl
  rcases hp with rfl | rfl
  · exact (copyCheck_fresh b w (c.get 0 rfl rfl) (by simp [World.shape?, hb]) (by simp [World.frozen?, hb])).mono fun e w' ⟨he, hw⟩ => by
      subst he
      exact hk w' (c.put 0 hw rfl)
  · exact (copyCheck_used b w (c.get 0 rfl rfl)).mono fun e w' ⟨he, hw⟩ => by
      subst he; subst hw
      exact hk w' c

theorem byte_info : ∃ i, Tryd.prog.info? 5 = some i ∧ i.zero = some (.int .u8 0) ∧ i.size = 1 ∧ i.bytes = 1 := by
  have h : (Tryd.prog.info? 5).map (fun i => (i.zero, i.size, i.bytes)) = some (some (.int .u8 0), 1, 1) := by kernel_rfl
  obtain ⟨i, hi, he⟩ := Option.map_eq_some_iff.1 h
  simp only [Prod.mk.injEq] at he
  exact ⟨i, hi, he⟩

theorem strCells_bytes (s : ByteArray) : Lib.strCells s = Lib.byteCells s.data.toList := rfl

theorem WriteString_use {W w : World} {S R : List Own} {Φ : PW} [Stable Φ] {b : Nat} {l : List UInt8} (s : ByteArray) (h : BdT b l R) (c : Ctx W w (R ++ S) Φ) (hlen : l.length + s.size ≤ 100000000000) {K : Ending → World → Prop}
    (hk : ∀ R' w', BdT b (l ++ s.data.toList) R' → Ctx W w' (R' ++ S) Φ → K (.returned (.tuple #[.int .i64 s.size, .nilIface])) w') : Calls Tryd.prog F.strings_Builder_WriteString #[.pointer (some ⟨b, 0, none⟩), .string s] w K := by
  obtain ⟨pa, p, cap, hpa, rfl⟩ := h
  obtain ⟨i, hi, hz, hsz, hby⟩ := byte_info
  refine (Bstrings_Builder_WriteString_run b 0 s (J := fun u w' => K (.returned u) w') c ?_).mono fun e w' ⟨v, he, hj⟩ => by rw [he]; exact hj
  refine fun w G c => copyCheck_use hpa c fun w c => ⟨rfl, [.blk b [.pointer (some ⟨b, 0, none⟩), .slice p l.length cap] 79, .buf p l.length cap (Lib.byteCells l) 5 1] ++ S, Φ, inferInstance, c, fun w G c => ⟨p, l.length, cap, c.get 0 rfl rfl, fun w G c => ?_⟩⟩
  obtain ⟨p', cap', w', hrun, c'⟩ := Ctx.appStr (P := Tryd.prog) (t := 71) (u := 9) (ty := 71) (kb := #[false, false]) (c.swap) Tryd.underlying71 Tryd.underlying9 hi hz hsz hby s (by omega) (by unfold maxLen; omega)
  refine ⟨p', _, cap', w', hrun, [.blk b [.pointer (some ⟨b, 0, none⟩), .slice p l.length cap] 79, .buf p' (l.length + s.size) cap' (Lib.byteCells l ++ Lib.strCells s) 5 1] ++ S, Φ, inferInstance, c'.swap, fun w G c => ⟨c.can 0 rfl (by simp), fun w' hw' => ?_⟩⟩
  refine ⟨[.blk b [.pointer (some ⟨b, 0, none⟩), .slice p' (l.length + s.size) cap'] 79, .buf p' (l.length + s.size) cap' (Lib.byteCells l ++ Lib.strCells s) 5 1] ++ S, Φ, inferInstance, c.put 0 hw' rfl, fun w G c => hk [.blk b [.pointer (some ⟨b, 0, none⟩), .slice p' (l.length + s.size) cap'] 79, .buf p' (l.length + s.size) cap' (Lib.byteCells l ++ Lib.strCells s) 5 1] w ⟨_, p', cap', .inr rfl, ?_⟩ c.left⟩
  have hl : (l ++ s.data.toList).length = l.length + s.size := by rw [List.length_append, Array.length_toList]; rfl
  rw [hl, strCells_bytes, Lib.byteCells_append]

theorem String_use {W w : World} {S R : List Own} {Φ : PW} [Stable Φ] {b : Nat} {l : List UInt8} (h : BdT b l R) (c : Ctx W w (R ++ S) Φ) {K : Ending → World → Prop}
    (hk : ∀ w', Ctx W w' S Φ → K (.returned (.string ⟨l.toArray⟩)) w') : Calls Tryd.prog F.strings_Builder_String #[.pointer (some ⟨b, 0, none⟩)] w K :=
  Bd.string Tryd.lays169 Tryd.Builder_Extra_169 h c hk

end Go.Proofs.YtnapfhbibikbiaaDoor
end

/-
  The encodings of ints, texts, values and rows: in plain Lean, and walked.
-/
section
set_option linter.unusedVariables false
set_option linter.unusedSimpArgs false
namespace Go.Vc
theorem GivesIn.know {Φ : PW} {P : Program} {f : FuncId} {args : Array Value} {v : Value} {p : Prop} (hΦ : ∀ M w, Φ M w → p) (h : p → GivesIn Φ P f args v) : GivesIn Φ P f args v :=
  ⟨fun W w S c => (h (hΦ _ _ c.phi)).go W w S c⟩
theorem GivesSl.know {Φ : PW} {P : Program} {f : FuncId} {args : Array Value} {α : Type} [Gv α] {l : List α} {mk : Value → Value} {p : Prop} (hΦ : ∀ M w, Φ M w → p) (h : p → GivesSl Φ P f args l mk) : GivesSl Φ P f args l mk :=
  ⟨fun W w S c => (h (hΦ _ _ c.phi)).go W w S c⟩
theorem GivesNew.know {Φ : PW} {P : Program} {f : FuncId} {args : Array Value} {α : Type} [Gv α] {l : List α} {t : TypeId} {p : Prop} (hΦ : ∀ M w, Φ M w → p) (h : p → GivesNew Φ P f args l t) : GivesNew Φ P f args l t :=
  ⟨fun W w S c => (h (hΦ _ _ c.phi)).go W w S c⟩
end Go.Vc
namespace Go.Proofs.YtnapfhbibikbiaaDoor
open Go.Vc

/-! ### in plain Lean -/
def numB (n : Int) : ByteArray := ⟨(Lib.itoa n).toArray⟩
def intB (n : Int) : ByteArray := numB n ++ ByteArray.mk #[59]
def natB (n : Int) : ByteArray := if n < 0 then ByteArray.mk #[] else intB n
def textB (s : ByteArray) : ByteArray := numB s.size ++ ByteArray.mk #[58] ++ s ++ ByteArray.mk #[44]
def valB (v : ValD) : ByteArray := intB v.kind ++ intB v.num ++ textB v.text
def valsL (r : List ValD) : List UInt8 := r.flatMap fun v => (valB v).data.toList
def rowL (r : List ValD) : List UInt8 := (natB r.length).data.toList ++ valsL r
def rowB (r : List ValD) : ByteArray := ⟨(rowL r).toArray⟩

theorem size_app (a b : ByteArray) : (a ++ b).size = a.size + b.size := ByteArray.size_append
theorem size_list (l : List UInt8) : (ByteArray.mk l.toArray).size = l.length := by simp [ByteArray.size]
theorem list_size (a : ByteArray) : a.data.toList.length = a.size := by rw [Array.length_toList]; rfl

theorem nDigits_le : ∀ (k u : Nat), u < 10 ^ k → 0 < k → Lib.nDigits u ≤ k
  | 0, u, _, h => by omega
  | k + 1, u, h, _ => by
    by_cases h1 : u < 10
    · rw [Lib.nDigits_small h1]; omega
    · rw [Lib.nDigits_big h1]
      have hk : 0 < k := by
        rcases Nat.eq_zero_or_pos k with rfl | h2
        · simp at h; omega
        · exact h2
      have := nDigits_le k (u / 10) (by rw [Nat.pow_succ] at h; omega) hk
      omega

theorem itoa_len {n : Int} (h : I64 n) : 1 ≤ (Lib.itoa n).length ∧ (Lib.itoa n).length ≤ 20 := by
  unfold I64 at h
  unfold Lib.itoa
  split
  · have h1 := nDigits_le 19 n.natAbs (by omega) (by decide)
    have h2 := Lib.nDigits_pos n.natAbs
    rw [List.length_cons, Lib.decDigits_length]; omega
  · have h1 := nDigits_le 19 n.toNat (by omega) (by decide)
    have h2 := Lib.nDigits_pos n.toNat
    rw [Lib.decDigits_length]; omega

theorem numB_size {n : Int} (h : I64 n) : 1 ≤ (numB n).size ∧ (numB n).size ≤ 20 := by
  unfold numB; rw [size_list]; exact itoa_len h
theorem intB_size {n : Int} (h : I64 n) : 2 ≤ (intB n).size ∧ (intB n).size ≤ 21 := by
  have := numB_size h
  have e : (ByteArray.mk #[59]).size = 1 := rfl
  unfold intB; rw [size_app, e]; omega
theorem natB_size {n : Int} (h : I64 n) : (natB n).size ≤ 21 := by
  unfold natB
  split
  · exact Nat.zero_le _
  · exact (intB_size h).2
theorem textB_size {s : ByteArray} (h : s.size ≤ 9223372036854775807) : (textB s).size ≤ s.size + 22 ∧ s.size + 3 ≤ (textB s).size := by
  have := numB_size (n := s.size) (by unfold I64; omega)
  have e : (ByteArray.mk #[58]).size = 1 := rfl
  have e2 : (ByteArray.mk #[44]).size = 1 := rfl
  unfold textB; rw [size_app, size_app, size_app, e, e2]; omega
theorem valB_size {v : ValD} (h1 : I64 v.kind) (h2 : I64 v.num) (h : v.text.size ≤ 9223372036854775807) : (valB v).size ≤ v.text.size + 64 := by
  have a := intB_size h1
  have b := intB_size h2
  have c := textB_size h
  unfold valB; rw [size_app, size_app]; omega

theorem valsL_app (a b : List ValD) : valsL (a ++ b) = valsL a ++ valsL b := by simp [valsL]
theorem valsL_one (v : ValD) : valsL [v] = (valB v).data.toList := by simp [valsL]
theorem valsL_len {m : Nat} : ∀ {r : List ValD}, (∀ v ∈ r, (I64 v.kind ∧ I64 v.num) ∧ v.text.size ≤ m) → m ≤ 9223372036854775807 → (valsL r).length ≤ r.length * (m + 64)
  | [], _, _ => by simp [valsL]
  | v :: r, h, hm => by
    have h1 := valsL_len (r := r) (fun u hu => h u (List.mem_cons_of_mem _ hu)) hm
    obtain ⟨⟨a, b⟩, c⟩ := h v List.mem_cons_self
    have h2 := valB_size a b (by omega)
    have e : valsL (v :: r) = (valB v).data.toList ++ valsL r := by simp [valsL]
    rw [e, List.length_append, list_size, List.length_cons, Nat.add_mul]
    omega
theorem rowL_len {m : Nat} {r : List ValD} (h : ∀ v ∈ r, (I64 v.kind ∧ I64 v.num) ∧ v.text.size ≤ m) (hm : m ≤ 9223372036854775807) (hr : r.length ≤ 1000000) : (rowL r).length ≤ 21 + r.length * (m + 64) := by
  have h1 := valsL_len h hm
  have h2 := natB_size (n := (r.length : Int)) (by unfold I64; omega)
  unfold rowL; rw [List.length_append, list_size]; omega

/-! ### walked -/
theorem rep_val {M : List Nat} {w : World} {cs : List Value} {v : ValD} (h : Gv.rep M w cs v) : cs = [.int .i64 v.kind, .int .i64 v.num, .string v.text] ∧ I64 v.kind ∧ I64 v.num ∧ v.text.size ≤ maxLen := by
  obtain ⟨_, _, rfl, ⟨rfl, h1⟩, _, _, rfl, ⟨rfl, h2⟩, rfl, h3⟩ := h
  exact ⟨rfl, h1, h2, h3⟩

theorem sl_i64 {M : List Nat} {w : World} {p : Option Addr} {l : List ValD} (h : Sl M w p l) : ∀ v ∈ l, (I64 v.kind ∧ I64 v.num) ∧ v.text.size ≤ maxLen := by
  intro v hv
  obtain ⟨i, hi, rfl⟩ := List.getElem_of_mem hv
  obtain ⟨_, _, _, _, _, _, hr⟩ := h i hi
  obtain ⟨_, h1, h2, h3⟩ := rep_val hr
  exact ⟨⟨h1, h2⟩, h3⟩

abbrev tabN : String := ((Rows.deltaGroupRow.laid.map Prod.fst).drop 2).headD default
/-- the table of the powers of ten lies there -/
abbrev TabI : PW := Tab Tryd.prog tabN .u64 Lib.pow10Tab

theorem Itoa_in {Φ : PW} [Stable Φ] (hΦ : ∀ M w, Φ M w → TabI M w) (n : Int) (h : I64 n) : GivesIn Φ Tryd.prog F.strconv_Itoa #[.int .i64 n] (.string (numB n)) :=
  itoa_in (name := tabN) (fun n h0 h1 w ht => Any.strconv_Itoa Tryd.laysM171 n h0 h1 w ht) hΦ n h

theorem Itoa_small (i : Nat) (hi : i < 100) : Gives Tryd.prog F.strconv_Itoa #[.int .i64 i] (.string (numB i)) :=
  Quiet.gives ⟨fun w => by
    have h := Any.strconv_Itoa_small { Tryd.lays171 with } i hi w
    rw [← Lib.itoa_nonneg] at h
    exact h⟩

/-- ints that the library writes: at these places, or small ones -/
def Dec (Φ : PW) (n : Int) : Prop := (∀ M w, Φ M w → TabI M w) ∧ I64 n ∨ ∃ i : Nat, i < 100 ∧ n = i

theorem Itoa_dec {Φ : PW} [Stable Φ] {n : Int} (h : Dec Φ n) : GivesIn Φ Tryd.prog F.strconv_Itoa #[.int .i64 n] (.string (numB n)) := by
  rcases h with ⟨h1, h2⟩ | ⟨i, hi, rfl⟩
  · exact Itoa_in h1 n h2
  · exact (Itoa_small i hi).in
theorem Dec.i64 {Φ : PW} {n : Int} (h : Dec Φ n) : I64 n := by
  rcases h with ⟨_, h2⟩ | ⟨i, hi, rfl⟩
  · exact h2
  · unfold I64; omega

theorem Int_in {Φ : PW} [Stable Φ] {n : Int} (h : Dec Φ n) : GivesIn Φ Tryd.prog F.wire_Int #[.int .i64 n] (.string (intB n)) := by
  refine gives_in (Bwire_Int_run n) fun W R => ?_
  have := numB_size h.i64
  exact fun w G cx => (Itoa_dec h).use cx fun w cx => ⟨_, rfl, R, Φ, inferInstance, cx, by show (numB n).size + 1 ≤ _; omega, fun w G cx => ⟨rfl, cx.left⟩⟩

theorem Num_in {Φ : PW} [Stable Φ] {n : Int} (h : Dec Φ n) : GivesIn Φ Tryd.prog F.wire_Num #[.int .i64 n] (.string (natB n)) := by
  refine gives_in (Bwire_Num_run n) fun W R => Br.intro (fun hn => fun w G cx => ⟨?_, cx.left⟩) (fun hn => fun w G cx => (Int_in h).use cx fun w cx => ⟨_, rfl, R, Φ, inferInstance, cx, fun w G cx => ⟨?_, cx.left⟩⟩)
  · unfold natB; rw [if_pos (of_decide_eq_true hn)]
  · unfold natB; rw [if_neg (of_decide_eq_false hn)]

theorem Text_in {Φ : PW} [Stable Φ] {s : ByteArray} (h : Dec Φ s.size) (hs : s.size ≤ 1000000000000) : GivesIn Φ Tryd.prog F.wire_Text #[.string s] (.string (textB s)) := by
  refine gives_in (Bwire_Text_run s) fun W R => ?_
  have h1 := numB_size h.i64
  have e : (ByteArray.mk #[58]).size = 1 := rfl
  have e2 : (ByteArray.mk #[44]).size = 1 := rfl
  exact fun w G cx => (Itoa_dec h).use cx fun w cx => ⟨_, rfl, R, Φ, inferInstance, cx, by show (numB s.size).size + 1 ≤ _; omega, by show (numB s.size ++ ByteArray.mk #[58]).size + s.size ≤ _; rw [size_app, e]; omega, by show (numB s.size ++ ByteArray.mk #[58] ++ s).size + 1 ≤ _; rw [size_app, size_app, e]; omega, fun w G cx => ⟨rfl, cx.left⟩⟩

theorem Bytes_in {Φ : PW} [Stable Φ] (v : ValD) (hΦ : ∀ M w, Φ M w → TabI M w) (h1 : I64 v.kind) (h2 : I64 v.num) (hs : v.text.size ≤ 1000000000000) : GivesIn Φ Tryd.prog F.value_Bytes #[v.v] (.string (valB v)) := by
  refine gives_in (Bvalue_Bytes_run v.kind v.num v.text) fun W R => ?_
  have a := intB_size h1
  have b := intB_size h2
  have c := textB_size (s := v.text) (by omega)
  exact fun _ => ⟨R, Φ, inferInstance, fun w G cx => cx, fun w G cx => (Int_in (.inl ⟨hΦ, h1⟩)).use cx fun w cx => ⟨_, rfl, R, Φ, inferInstance, cx, fun w G cx => cx, fun w G cx => (Int_in (.inl ⟨hΦ, h2⟩)).use cx fun w cx => ⟨_, rfl, R, Φ, inferInstance, cx, fun w G cx => cx, by show (intB v.kind).size + (intB v.num).size ≤ _; omega,
    fun w G cx => (Text_in (.inl ⟨hΦ, by unfold I64; omega⟩) hs).use cx fun w cx => ⟨_, rfl, R, Φ, inferInstance, cx, fun w G cx => cx, by show (intB v.kind ++ intB v.num).size + (textB v.text).size ≤ _; rw [size_app]; omega, fun w G cx => ⟨rfl, cx.left⟩⟩⟩⟩⟩

theorem RowBytes_in {Φ : PW} [Stable Φ] (p : Option Addr) (cap : Nat) (r : List ValD) (hT : ∀ M w, Φ M w → TabI M w) (hΦ : ∀ M w, Φ M w → Sl M w p r) (hr : r.length ≤ 1000000) (ht : ∀ v ∈ r, v.text.size ≤ 10000) :
    GivesIn Φ Tryd.prog F.value_RowBytes #[.slice p r.length cap] (.string (rowB r)) := by
  refine .there (fun M w h => (hΦ M w h).there) fun hth => .know (fun M w h => sl_i64 (hΦ M w h)) fun hi => ?_
  have hv : ∀ v ∈ r, (I64 v.kind ∧ I64 v.num) ∧ v.text.size ≤ 10000 := fun v h => ⟨(hi v h).1, ht v h⟩
  have hL := rowL_len hv (by decide) hr
  have hL : (rowL r).length ≤ 20000000000 := by
    have : r.length * (10000 + 64) ≤ 1000000 * 10064 := Nat.mul_le_mul hr (Nat.le_refl _)
    omega
  have hnat : (natB r.length).data.toList.length ≤ 20000000000 := by unfold rowL at hL; rw [List.length_append] at hL; omega
  refine gives_in (Bvalue_RowBytes_run p r.length cap) fun W R => ?_
  refine fun b w G cx => (Num_in (Φ := Φ) (.inl ⟨hT, by unfold I64; omega⟩)).use cx fun w cx => ⟨_, rfl, .blk b [.pointer none, .slice none 0 0] 79 :: R, Φ, inferInstance, cx, fun w G cx => ?_⟩
  refine WriteString_use (natB r.length) Bd.nil (Bd.fresh cx) (by rw [← list_size]; simp only [List.length_nil]; omega) fun R1 w hB cx => ⟨_, _, rfl, R1 ++ R, Φ, inferInstance, by rw [List.append_assoc]; exact cx, ?_⟩
  rw [List.nil_append] at hB
  clear cx
  refine exI_mk (fun iI R' Φ' k => ∃ (i : Nat) (Q : List Own), iI = i ∧ i ≤ r.length ∧ BdT b ((natB r.length).data.toList ++ valsL (r.take i)) Q ∧ R' = Q ++ R ∧ Φ' = Φ ∧ k = r.length - i) ⟨⟨_, Φ, _, inferInstance, fun w G cx => cx, 0, R1, rfl, Nat.zero_le _, by rw [List.take_zero, show valsL [] = [] from rfl, List.append_nil]; exact hB, rfl, rfl, rfl⟩, ?_⟩
  rintro iI R2 Φ2 k _ ⟨i, Q, rfl, hi, hQ, rfl, rfl, rfl⟩
  refine Br.intro (fun hlt => ?_) (fun hge => fun w G cx => ?_)
  · have hlt : i < r.length := by have := of_decide_eq_true hlt; omega
    obtain ⟨g, o, rfl⟩ := hth (by omega)
    obtain ⟨⟨h1, h2⟩, h3⟩ := hv r[i] (List.getElem_mem hlt)
    have hsz := valB_size h1 h2 (by omega)
    have hlen : ((natB r.length).data.toList ++ valsL (r.take (i + 1))).length ≤ 20000000000 := by
      have e : valsL r = valsL (r.take (i + 1)) ++ valsL (r.drop (i + 1)) := by rw [← valsL_app, List.take_append_drop]
      unfold rowL at hL
      rw [e, List.length_append, List.length_append] at hL
      rw [List.length_append]; omega
    have hstep : valsL (r.take (i + 1)) = valsL (r.take i) ++ (valB r[i]).data.toList := by rw [List.take_succ_eq_append_getElem hlt, valsL_app, valsL_one]
    refine ⟨by omega, ptrK_intro g o rfl fun w G cx => ⟨r[i].kind, r[i].num, r[i].text, by rw [Int.toNat_natCast]; exact sl_val (hΦ _ _ cx.phi) hlt, fun _ w G cx => (Bytes_in (Φ := Φ2) r[i] hT h1 h2 (by omega)).use cx fun w cx => ⟨_, rfl, Q ++ R, Φ2, inferInstance, cx, fun w G cx => ?_⟩⟩⟩
    refine WriteString_use (valB r[i]) hQ (cx.re (List.append_assoc _ _ _)) (by rw [hstep, ← List.append_assoc, List.length_append, list_size] at hlen; omega) fun Q' w hQ' cx => ⟨_, _, rfl, Q' ++ R, Φ2, inferInstance, by rw [List.append_assoc]; exact cx, by unfold I64; omega, _, Φ2, r.length - (i + 1), inferInstance, fun w G cx => cx, ⟨i + 1, Q', by omega, hlt, ?_, rfl, rfl, rfl⟩, by omega⟩
    rw [hstep, ← List.append_assoc]; exact hQ'
  · have hge : i = r.length := by have := of_decide_eq_false hge; omega
    subst hge
    rw [List.take_length] at hQ
    exact String_use hQ (cx.re (List.append_assoc _ _ _)) fun w cx => ⟨_, rfl, R, Φ2, inferInstance, cx, fun w G cx => ⟨rfl, cx.left⟩⟩

end Go.Proofs.YtnapfhbibikbiaaDoor
end

/-
  Find, Count, Multiset, Times, walked; few.
-/
section
set_option linter.unusedVariables false
set_option linter.unusedSimpArgs false
namespace Go.Proofs.YtnapfhbibikbiaaDoor
open Go.Vc


/-! ### Find, Count -/
theorem sumK_step {l : List DeltaD} {i : Nat} (h : i < l.length) (k : Key) : sumK (l.take (i + 1)) k = sumK (l.take i) k + (if l[i].key = k then l[i].n else 0) := by
  rw [List.take_succ_eq_append_getElem h, sumK_app]
  simp only [sumK, Int.add_zero]

theorem Find_pin {Φ : PW} [Stable Φ] (p : Option Addr) (cap : Nat) (l : List DeltaD) (time : Int) (q : Option Addr) (cap2 : Nat) (row : List ValD) (g o : Nat) (cs : List (List Value)) (hp : 0 < l.length → p = some ⟨g, o, none⟩) (hΦ : ∀ M w, Φ M w → Pin g o cs l M w) (hΨ : ∀ M w, Φ M w → Sl M w q row)
    (hlen : l.length ≤ 9223372036854775807) : GivesIn Φ Tryd.prog F.delta_Find #[.slice p l.length cap, .int .i64 time, .slice q row.length cap2] (.int .i64 (findP l (time, row))) := by
  refine in_cells hΦ fun hcs => ?_
  refine gives_in (Bdelta_Find_run p l.length cap time q row.length cap2) fun W R => ?_
  refine exI_mk (fun n iI R' Φ' k => ∃ i : Nat, iI = i ∧ i ≤ l.length ∧ n = findP (l.take i) (time, row) ∧ R' = R ∧ Φ' = Φ ∧ k = l.length - i) ⟨⟨R, Φ, _, inferInstance, fun w F c => c, 0, rfl, Nat.zero_le _, rfl, rfl, rfl, rfl⟩, ?_⟩
  rintro n iI R1 Φ1 k _ ⟨i, rfl, hi, rfl, rfl, rfl, rfl⟩
  refine Br.intro (fun hlt => ?_) (fun hge => fun w F cx => ⟨?_, cx.left⟩)
  · have hlt : i < l.length := by have := of_decide_eq_true hlt; omega
    obtain ⟨r, rc, he, f1, f2, _, _⟩ := hcs i hlt
    have hcall := compareD_in (Φ := Φ1) l[i] ⟨time, row, 0⟩ r q rc cap2 (fun M w h => pin_row (hΦ M w h) hlt he) (fun M w h => hΨ M w h) (len_max f1 f2)
    refine ⟨by omega, ptrK_intro g o (hp (by omega)) fun w G cx => ⟨l[i].time, r, l[i].row.length, rc, l[i].n, by rw [Int.toNat_natCast]; exact pin_rowAt (hΦ _ _ cx.phi) hlt he, fun _ w G cx => hcall.use cx fun w cx => ⟨_, rfl, R1, Φ1, inferInstance, cx,
      Br.intro (fun h => ⟨by unfold I64; omega, R1, Φ1, l.length - (i + 1), inferInstance, fun w F c => c, ⟨i + 1, rfl, hlt, ?_, rfl, rfl, rfl⟩, by omega⟩) (fun h => ⟨by unfold I64; omega, R1, Φ1, l.length - (i + 1), inferInstance, fun w F c => c, ⟨i + 1, rfl, hlt, ?_, rfl, rfl, rfl⟩, by omega⟩)⟩⟩⟩
    · have h := of_decide_eq_true h
      rw [cmpD_key] at h
      have hk : l[i].key = (time, row) := (cmpK_cmp.eq _ _).1 h
      unfold findP
      rw [sumK_step hlt, if_pos hk]
      exact w64_l _ _
    · have h := of_decide_eq_false h
      rw [cmpD_key] at h
      have hk : ¬ l[i].key = (time, row) := fun e => h ((cmpK_cmp.eq _ _).2 e)
      unfold findP
      rw [sumK_step hlt, if_neg hk, Int.add_zero]
  · have hge : i = l.length := by have := of_decide_eq_false hge; omega
    rw [hge, List.take_length]

theorem Find_in {Φ : PW} [Stable Φ] (p : Option Addr) (cap : Nat) (l : List DeltaD) (time : Int) (q : Option Addr) (cap2 : Nat) (row : List ValD) (hΦ : ∀ M w, Φ M w → Sl M w p l) (hΨ : ∀ M w, Φ M w → Sl M w q row)
    (hlen : l.length ≤ 9223372036854775807) : GivesIn Φ Tryd.prog F.delta_Find #[.slice p l.length cap, .int .i64 time, .slice q row.length cap2] (.int .i64 (findP l (time, row))) :=
  .pinned hΦ fun g o cs hp => Find_pin (Φ := fun M w => Φ M w ∧ Pin g o cs l M w) p cap l time q cap2 row g o cs hp (fun M w h => h.2) (fun M w h => hΨ M w h.1) hlen

def sumN : List DeltaD → Int
  | [] => 0
  | x :: l => x.n + sumN l
def countP (l : List DeltaD) : Int := w64 (sumN l)

/-! ### Multiset -/
def findI {α : Type} (p : α → Bool) : Nat → List α → Int
  | _, [] => -1
  | i, x :: r => if p x = true then (i : Int) else findI p (i + 1) r

theorem findI_drop {α : Type} (p : α → Bool) (l : List α) (i : Nat) (hi : i < l.length) : findI p i (l.drop i) = if p l[i] = true then (i : Int) else findI p (i + 1) (l.drop (i + 1)) := by
  rw [List.drop_eq_getElem_cons hi]; rfl
theorem findI_any {α : Type} (p : α → Bool) : ∀ (l : List α) (i : Nat), decide (0 ≤ findI p i l) = l.any p
  | [], _ => rfl
  | x :: r, i => by
    unfold findI
    rw [List.any_cons]
    cases h : p x with
    | true => simp
    | false => simp only [Bool.false_or]; rw [if_neg (by simp)]; exact findI_any p r (i + 1)

theorem IndexD_in {Φ : PW} [Stable Φ] (p : Option Addr) (cap : Nat) (l : List DeltaD) (b o : Nat) (cs : List (List Value)) (f : FuncId) (cp : Array Value) (q : DeltaD → Bool) (hp : 0 < l.length → p = some ⟨b, o, none⟩) (hΦ : ∀ M w, Φ M w → Pin b o cs l M w) (hlen : l.length ≤ 9223372036854775807) (hf : okFun Tryd.prog f = true)
    (hq : ∀ j, (hj : j < l.length) → ∀ r c, cs.getD j [] = l[j].cells r c → l[j].row.length ≤ c → c ≤ maxLen → GivesIn Φ Tryd.prog f (Array.mk (l[j].v r c :: cp.toList)) (.bool (q l[j]))) :
    GivesIn Φ Tryd.prog F.slices_IndexFunc_api_Delta_api_Delta #[.slice p l.length cap, .func (.func f) #[] cp] (.int .i64 (findI q 0 l)) := by
  refine in_cells hΦ fun hcs => ?_
  refine gives_in (Bslices_IndexFunc_api_Delta_api_Delta_run p l.length cap f cp) fun W R => ?_
  refine exI_mk (fun n R' Φ' k => ∃ i : Nat, n = i ∧ i ≤ l.length ∧ R' = R ∧ Φ' = Φ ∧ k = l.length - i ∧ findI q 0 l = findI q i (l.drop i)) ⟨⟨R, Φ, _, inferInstance, fun w F c => c, 0, rfl, Nat.zero_le _, rfl, rfl, rfl, rfl⟩, ?_⟩
  rintro n R1 Φ1 k _ ⟨i, rfl, hi, rfl, rfl, rfl, hor⟩
  refine Br.intro (fun hlt => ?_) (fun hge => fun w F cx => ⟨?_, cx.left⟩)
  · have hlt : i < l.length := by simpa using hlt
    rw [findI_drop q l i hlt] at hor
    obtain ⟨r, rc, he, hq1, hq2, _, _⟩ := hcs i hlt
    refine ⟨by omega, ptrK_intro b o (hp (by omega)) fun w F cx => ⟨_, r, _, rc, _, by rw [Int.toNat_natCast]; exact pin_rowAt (hΦ _ _ cx.phi) hlt he, fun w F cx => ⟨hf, (hq i hlt r rc he hq1 hq2).use cx fun w cx => ⟨_, rfl, R1, Φ1, inferInstance, cx, Br.intro (fun h => fun w F cx => ⟨?_, cx.left⟩) (fun h => ⟨by unfold I64; omega, R1, Φ1, l.length - (i + 1), inferInstance, fun w F c => c, ⟨i + 1, rfl, hlt, rfl, rfl, rfl, ?_⟩, by omega⟩)⟩⟩⟩⟩
    · rw [hor, if_pos h]
    · rw [hor, if_neg (by rw [h]; simp)]
  · have hge : i = l.length := Nat.le_antisymm hi (by simpa using hge)
    rw [hor, hge, List.drop_length]
    rfl

theorem neg1_in {Φ : PW} [Stable Φ] (x : DeltaD) (p : Option Addr) (cap : Nat) : GivesIn Φ Tryd.prog F.delta_Multiset_1 #[x.v p cap] (.bool (decide (x.n < 0))) :=
  gives_in (Bdelta_Multiset_1_run x.time p x.row.length cap x.n) fun W R => fun _ w G cx => ⟨rfl, cx.left⟩

def multiP (l : List DeltaD) : Bool := !(consP l).any fun x => decide (x.n < 0)

theorem Multiset_in {Φ : PW} [Stable Φ] (p : Option Addr) (cap : Nat) (l : List DeltaD) (hΦ : ∀ M w, Φ M w → Sl M w p l) (hlen : l.length ≤ 1000000) (hrow : ∀ x ∈ l, x.row.length ≤ 1000000) :
    GivesIn Φ Tryd.prog F.delta_Multiset #[.slice p l.length cap] (.bool (multiP l)) := by
  refine gives_in (Bdelta_Multiset_run p l.length cap) fun W R => ?_
  refine fun w G cx => (Consolidate_sl p cap l hΦ hlen hrow).use cx fun p1 c1 w h1 h2 cx => ⟨p1, _, c1, rfl, R, _, inferInstance, cx, fun w G cx => ?_⟩
  have hcon : GivesIn (fun M w => Φ M w ∧ Sl M w p1 (consP l)) Tryd.prog F.slices_ContainsFunc_api_Delta_api_Delta #[.slice p1 (consP l).length c1, .func (.func F.delta_Multiset_1) #[] #[]] (.bool ((consP l).any fun x => decide (x.n < 0))) :=
    .pinned (fun M w h => h.2) fun b o cs hp => by
      refine gives_in (Bslices_ContainsFunc_api_Delta_api_Delta_run p1 (consP l).length c1 F.delta_Multiset_1 #[]) fun W R => ?_
      exact fun w G cx => (IndexD_in (Φ := fun M w => (Φ M w ∧ Sl M w p1 (consP l)) ∧ Pin b o cs (consP l) M w) p1 c1 (consP l) b o cs F.delta_Multiset_1 #[] (fun x => decide (x.n < 0)) hp (fun M w h => h.2) (len_max h1 h2) (by kernel_rfl) (fun j hj r c _ _ _ => neg1_in _ r c)).use cx fun w cx => ⟨_, rfl, R, _, inferInstance, cx, fun w G cx => ⟨by rw [findI_any], cx.left⟩⟩
  exact hcon.use cx fun w cx => ⟨_, rfl, R, Φ, inferInstance, cx.fst, fun w G cx => ⟨rfl, cx.left⟩⟩

/-! ### Compact -/
abbrev intv (x : Int) : Value := .int .i64 x
abbrev bufZ (p : Option Addr) (cap : Nat) (zs : List Int) : Own := .buf p zs.length cap (zs.map intv) 3 1

theorem compact_len (zs : List Int) : (Lib.compact zs).length ≤ zs.length := by
  unfold Lib.compact Lib.compactUpTo
  rw [List.length_map]
  exact Nat.le_trans (List.length_filter_le _ _) (by simp)

theorem Compact_use {W w : World} {S : List Own} {Φ : PW} [Stable Φ] {p : Option Addr} {cap : Nat} (zs : List Int) (c : Ctx W w (bufZ p cap zs :: S) Φ) {K : Ending → World → Prop}
    (hk : ∀ w', Ctx W w' (bufZ p cap (Lib.compact zs) :: S) Φ → K (.returned (.slice p (Lib.compact zs).length cap)) w') : Calls Tryd.prog F.slices_Compact_int_int #[.slice p zs.length cap] w K := by
  obtain ⟨_, hn, hm⟩ := c.bufLen 0 rfl
  have hown := c.own _ List.mem_cons_self
  by_cases h0 : zs.length = 0
  · have hz : zs = [] := List.eq_nil_of_length_eq_zero h0
    subst hz
    exact (Any.slices_Compact_int_empty Tryd.laysNm220 p cap w).mono fun e w' ⟨he, hw⟩ => by subst he; subst hw; exact hk w' c
  rcases hown.2 with ⟨e, h⟩ | ⟨g, cap', cur, e, _, hg, hnc, hcm, hcs, htake⟩
  · exact absurd h h0
  cases e
  have htake : cur.toList.take zs.length = zs.map intv := by simpa using htake
  have hsz : cur.size = cap := by simpa using hcs
  have hget : ∀ j, (hj : j < zs.length) → cur[j]? = some (.int .i64 zs[j]) := fun j hj => by
    have : (cur.toList.take zs.length)[j]? = (zs.map intv)[j]? := by rw [htake]
    rw [List.getElem?_take_of_lt hj, List.getElem?_map, List.getElem?_eq_getElem hj] at this
    simpa using this
  have hH : Go.Sort.Holds (Value.int .i64) w g 0 zs.toArray := fun j hj => by
    have hj : j < zs.length := by simpa using hj
    have h1 := hget j hj
    refine ⟨?_, by simp [World.frozen?, hg]⟩
    rw [show (zs.toArray)[j]! = zs[j] by simp [getElem!_pos, hj], Nat.zero_add]
    simp [World.cell?, hg, h1]
  refine (Any.slices_Compact_int Tryd.laysNm220 g 0 cap zs w hH (by unfold maxLen at hm; omega) hn).mono fun e w' ⟨he, q, hw⟩ => ?_
  subst he
  refine hk w' ?_
  have hcl := compact_len zs
  have hb : w'.heap[g]? = some (.cells (Go.Sort.putCells (Value.int .i64) 0 (Lib.compact zs ++ List.replicate (zs.length - (Lib.compact zs).length) 0).toArray cur) 3 (0, 0)) := by
    rw [hw]
    show (Array.modify w.heap g _)[g]? = _
    rw [Array.getElem?_modify, if_pos rfl, hg]
    rfl
  refine c.upd (k := 0) (o' := bufZ (some ⟨g, 0, none⟩) cap (Lib.compact zs)) rfl ?_ (fun b hb => .inl hb) (by simp [Own.dom]) ⟨by simp, .inr ⟨g, cap, _, rfl, Nat.zero_le _, hb, by omega, hcm, by simpa [Go.Sort.putCells] using hsz, ?_⟩⟩
  · rw [hw]
    refine ⟨rfl, rfl, rfl, by show w.heap.size ≤ (Array.modify w.heap g _).size; simp, fun k _ hk => ?_⟩
    show (Array.modify w.heap g _)[k]? = _
    rw [Array.getElem?_modify, if_neg (fun e => hk (by simp [Own.dom, e]))]
  · apply List.ext_getElem?
    intro j
    rw [Nat.mul_one]
    by_cases hj : j < (Lib.compact zs).length
    · rw [List.getElem?_take_of_lt hj, List.getElem?_map, List.getElem?_eq_getElem hj]
      have hlt : j < cur.size := by omega
      simp only [Go.Sort.putCells, Array.getElem?_toList, Array.getElem?_mapIdx]
      rw [Array.getElem?_eq_getElem hlt]
      have hap : (Lib.compact zs ++ List.replicate (zs.length - (Lib.compact zs).length) 0).toArray[j]! = (Lib.compact zs)[j] := by
        rw [getElem!_pos _ j (by simp; omega)]
        simp [List.getElem_append, hj]
      simp only [Option.map_some, Nat.sub_zero, hap, Nat.zero_le, true_and, Nat.zero_add]
      rw [if_pos (by simp; omega)]
    · rw [List.getElem?_eq_none (by rw [List.length_take]; omega), List.getElem?_eq_none (by simp; omega)]

/-! ### Times -/
abbrev tmv (x : DeltaD) : Value := intv x.time
def timesP (l : List DeltaD) : List Int := Lib.compact ((consP l).map DeltaD.time)

theorem intv_elems {M : List Nat} {w : World} (l : List Int) (h : ∀ x ∈ l, I64 x) : Elems M w (l.map intv) l := ints_elems l h

theorem compact_mem {zs : List Int} {x : Int} (h : x ∈ Lib.compact zs) : x ∈ zs := by
  unfold Lib.compact Lib.compactUpTo at h
  obtain ⟨i, hi, rfl⟩ := List.mem_map.1 h
  have hi' : i < zs.length := List.mem_range.1 (List.mem_filter.1 hi).1
  simp [getElem!_pos, hi']

theorem Times_sl {Φ : PW} [Stable Φ] (p : Option Addr) (cap : Nat) (l : List DeltaD) (hΦ : ∀ M w, Φ M w → Sl M w p l) (hlen : l.length ≤ 1000000) (hrow : ∀ x ∈ l, x.row.length ≤ 1000000) :
    GivesSl Φ Tryd.prog F.delta_Times #[.slice p l.length cap] (timesP l) id := by
  refine gives_sl (Bdelta_Times_run p l.length cap) fun W R => ?_
  refine fun w G cx => (Consolidate_sl p cap l hΦ hlen hrow).use cx fun p1 c1 w h1 h2 cx => ?_
  have hlc := consP_len l
  obtain ⟨c, hc⟩ : ∃ c, consP l = c := ⟨_, rfl⟩
  unfold timesP
  rw [hc] at cx h1 hlc ⊢
  obtain ⟨g, o, cs, hp, cx⟩ := cx.pin cx.phi.2
  have hcs : ∀ j, (hj : j < c.length) → ∃ p q, cs.getD j [] = c[j].cells p q ∧ c[j].row.length ≤ q ∧ q ≤ maxLen ∧ I64 c[j].time ∧ I64 c[j].n := fun j hj => by
    obtain ⟨p, c, h1, h2, h3, h4, h5, _⟩ := pin_delta cx.phi.2 hj
    exact ⟨p, c, h1, h2, h3, h4, h5⟩
  have hI : ∀ x ∈ c.map DeltaD.time, I64 x := fun x hx => by
    obtain ⟨y, hy, rfl⟩ := List.mem_map.1 hx
    obtain ⟨j, hj, rfl⟩ := List.getElem_of_mem hy
    obtain ⟨_, _, _, _, _, h, _⟩ := hcs j hj
    exact h
  refine ⟨p1, _, c1, rfl, R, fun M w => (Φ M w ∧ Sl M w p1 c) ∧ Pin g o cs c M w, inferInstance, cx, ?_⟩
  clear cx
  refine exI_mk (fun sp sn sc iI R' Φ' k => ∃ (i : Nat), iI = i ∧ i ≤ c.length ∧ sn = (c.take i).length ∧ R' = .buf sp (c.take i).length sc ((c.take i).map tmv) 3 1 :: R ∧ Φ' = (fun M w => (Φ M w ∧ Sl M w p1 c) ∧ Pin g o cs c M w) ∧ k = c.length - i)
    ⟨⟨.buf none (c.take 0).length 0 ((c.take 0).map tmv) 3 1 :: R, _, _, inferInstance, fun w G cx => cx.nobuf 3 1, 0, rfl, Nat.zero_le _, rfl, rfl, rfl, rfl⟩, ?_⟩
  rintro sp _ sc iI R1 Φ1 k hst ⟨i, rfl, hi, rfl, rfl, rfl, rfl⟩
  have hln : (c.take i).length = i := by rw [List.length_take]; omega
  refine Br.intro (fun hlt => ?_) (fun hge => fun w G cx => ?_)
  · have hlt : i < c.length := by have := of_decide_eq_true hlt; omega
    obtain ⟨r, rc, he, f1, f2, _, _⟩ := hcs i hlt
    refine ⟨by omega, ptrK_intro g o (hp (by omega)) fun w G cx => ⟨c[i].time, r, c[i].row.length, rc, c[i].n, by rw [Int.toNat_natCast]; exact pin_rowAt cx.phi.2 hlt he, fun _ k w G cx => ?_⟩⟩
    obtain ⟨p', cap', w', hrun, _, cx'⟩ := Ctx.app1 (P := Tryd.prog) (ts := 43) (ty := 43) (kb := #[false, false]) (size := 1) (bytes := 8) cx (by kernel_rfl) (by omega) rfl rfl (by omega) (by omega)
    have htk : (c.take (i + 1)).map tmv = ((c.take i).map tmv) ++ [intv c[i].time] := by rw [List.take_succ_eq_append_getElem hlt, List.map_append]; rfl
    have hl1 : (c.take i).length + 1 = (c.take (i + 1)).length := by rw [List.length_take, List.length_take]; omega
    rw [hl1] at cx' hrun
    rw [← htk] at cx'
    exact ⟨p', _, cap', w', hrun, .buf p' (c.take (i + 1)).length cap' ((c.take (i + 1)).map tmv) 3 1 :: R, _, hst, cx', by unfold I64; omega, _, _, c.length - (i + 1), hst, fun w G cx => cx, ⟨i + 1, by omega, hlt, rfl, rfl, rfl, rfl⟩, by omega⟩
  · have hge : i = c.length := by have := of_decide_eq_false hge; omega
    subst hge
    rw [List.take_length] at cx ⊢
    have e1 : c.map tmv = (c.map DeltaD.time).map intv := by rw [List.map_map]; rfl
    have e2 : c.length = (c.map DeltaD.time).length := by rw [List.length_map]
    rw [e1, e2] at cx
    rw [e2]
    refine Compact_use (S := R ++ G) (c.map DeltaD.time) cx fun w cx => ?_
    obtain ⟨_, k1, k2⟩ := cx.bufLen 0 rfl
    obtain ⟨cx3, hs, _⟩ := Ctx.freeze (α := Int) (l := Lib.compact (c.map DeltaD.time)) cx (intv_elems _ fun x hx => hI x (compact_mem hx))
    exact ⟨sp, _, sc, rfl, R, fun M w => Φ M w ∧ Sl M w sp (Lib.compact (c.map DeltaD.time)), inferInstance, (cx3.add hs).weak fun M w h => ⟨h.1.1.1, h.2⟩, fun w G cx => ⟨sp, sc, rfl, k1, k2, cx.left⟩⟩

end Go.Proofs.YtnapfhbibikbiaaDoor
end

/-
  DeleteFunc, Upto, After, walked.
-/
section
set_option linter.unusedVariables false
set_option linter.unusedSimpArgs false
namespace Go.Vc
section
variable {P : Program} {W w w' : World} {S F : List Own} {Φ Ψ : PW}

/-- only the first elements -/
theorem Ctx.bufShrink [Stable Φ] {p : Option Addr} {n cap : Nat} {cs : List Value} {t : TypeId} {size : Nat} (c : Ctx W w (.buf p n cap cs t size :: S) Φ) {i : Nat} (hi : i ≤ n) : Ctx W w (.buf p i cap (cs.take (i * size)) t size :: S) Φ := by
  obtain ⟨hl, hn, hm⟩ := c.bufLen 0 rfl
  have hle : i * size ≤ n * size := Nat.mul_le_mul_right _ hi
  have hown := c.own _ List.mem_cons_self
  refine c.upd (k := 0) (o' := .buf p i cap (cs.take (i * size)) t size) rfl (Chg.refl _ _) (fun b hb => .inl ?_) (by cases p <;> simp [Own.dom]) ⟨by rw [List.length_take]; omega, ?_⟩
  · cases p <;> exact hb
  · rcases hown.2 with ⟨e, rfl⟩ | ⟨g, cap', cur, e, h1, h2, h3, h4, h5, h6⟩
    · cases e
      have : i = 0 := by omega
      subst this
      exact .inl ⟨rfl, rfl⟩
    · cases e
      refine .inr ⟨g, cap, cur, rfl, h1, h2, by omega, h4, h5, ?_⟩
      rw [← h6, List.take_take, Nat.min_eq_left hle]

theorem run_clr {ats : Array TypeId} {ty : TypeId} {cs : Array Bool} {args : Array Value} {v : Value} {w w' : World} (h : (Builtin.clear_ ats ty args).run P w = .ok v w') : Sem.run P (builtin Builtin.clear ats ty cs args) w = .ok (.value v) w' := by
  unfold builtin
  simp only [Sem.run_bind, h, Result.andThen, Sem.run_pure]

/-- clear of a slice of elements of several cells -/
theorem run_clear_cells (w : World) (t e ty : TypeId) (z : Value) (ht : P.underlying t = some (.slice e)) (hv : ∀ w, (zeroValue e).run P w = .ok z w) (h1 : ∀ v ∈ z.cells, v.oneCell' = true) (hp : 0 < z.cells.size) (b o n c : Nat) (hn : 0 < n)
    (hc : ∀ j, j < n * z.cells.size → (w.cell? ⟨b, o + j, none⟩).isSome = true) (hf : ∀ j, j < n * z.cells.size → w.frozen? ⟨b, o + j, none⟩ = false) :
    (Builtin.clear_ #[t] ty #[.slice (some ⟨b, o, none⟩) n c]).run P w = .ok (.tuple #[]) (w.setCells b o (Builtin.zeroCells z.cells n).toList) := by
  have hl : (Builtin.zeroCells z.cells n).toList.length = n * z.cells.size := by simp [Builtin.zeroCells]
  have hst := run_storeCells_cells (P := P) b o (Builtin.zeroCells z.cells n).toList 0 w (by rw [hl]; simpa using hc) (by rw [hl]; simpa using hf) (fun v hv' => by
    simp only [Builtin.zeroCells, Array.toList_map, List.mem_map] at hv'
    obtain ⟨i, _, rfl⟩ := hv'
    have hlt : i % z.cells.size < z.cells.size := Nat.mod_lt _ hp
    rw [getElem!_pos z.cells _ hlt]
    exact h1 _ (Array.getElem_mem hlt))
  simp only [Nat.add_zero] at hst
  obtain ⟨m, rfl⟩ : ∃ m, n = m + 1 := ⟨n - 1, by omega⟩
  simp [Builtin.clear_, run_underlying ht, hv, hst]

theorem setL_low (cs vs : List Value) (n : Nat) : (setL cs n vs).take n = cs.take n := by
  apply List.ext_getElem?
  intro i
  by_cases hi : i < n
  · rw [List.getElem?_take_of_lt hi, List.getElem?_take_of_lt hi, setL_get _ _ _ _ (.inl hi)]
  · rw [List.getElem?_eq_none (by rw [List.length_take]; omega), List.getElem?_eq_none (by rw [List.length_take]; omega)]
end
end Go.Vc

namespace Go.Proofs.YtnapfhbibikbiaaDoor
open Go.Vc


theorem IndexE_use {W w : World} {S : List Own} {Φ : PW} [Stable Φ] {p : Option Addr} {cap : Nat} {es : List DE} (c : Ctx W w (bufE p cap es :: S) Φ) (f : FuncId) (cp : Array Value) (q : DE → Bool) (hlen : es.length ≤ 1000000) (hf : okFun Tryd.prog f = true)
    (hq : ∀ x ∈ es, GivesIn Φ Tryd.prog f (Array.mk (x.v :: cp.toList)) (.bool (q x))) {K : Ending → World → Prop} (hk : ∀ w', Ctx W w' (bufE p cap es :: S) Φ → K (.returned (.int .i64 (findI q 0 es))) w') :
    Calls Tryd.prog F.slices_IndexFunc_api_Delta_api_Delta #[.slice p es.length cap, .func (.func f) #[] cp] w K := by
  refine (Bslices_IndexFunc_api_Delta_api_Delta_run p es.length cap f cp (J := fun u w' => K (.returned u) w') c ?_).mono fun e w' ⟨v, he, hj⟩ => by rw [he]; exact hj
  refine exI_mk (fun n R' Φ' m => ∃ i : Nat, n = i ∧ i ≤ es.length ∧ R' = bufE p cap es :: S ∧ Φ' = Φ ∧ m = es.length - i ∧ findI q 0 es = findI q i (es.drop i)) ⟨⟨_, Φ, _, inferInstance, fun w F c => c, 0, rfl, Nat.zero_le _, rfl, rfl, rfl, rfl⟩, ?_⟩
  rintro n R1 Φ1 m _ ⟨i, rfl, hi, rfl, rfl, rfl, hor⟩
  refine Br.intro (fun hlt => ?_) (fun hge => fun w G cx => ?_)
  · have hlt : i < es.length := by simpa using hlt
    rw [findI_drop q es i hlt] at hor
    have hpg : ∃ g, p = some ⟨g, 0, none⟩ := e_ptr c (by omega)
    obtain ⟨g, rfl⟩ := hpg
    obtain ⟨X, hX⟩ : ∃ X, es[i]? = some X := ⟨_, List.getElem?_eq_getElem hlt⟩
    have hXe : es[i] = X := by rw [List.getElem?_eq_getElem hlt] at hX; exact Option.some.inj hX
    rw [hXe] at hor
    refine ⟨by omega, ptrK_intro g 0 rfl fun w G cx => ⟨X.d.time, X.p, X.d.row.length, X.c, X.d.n, by rw [Int.toNat_natCast, Nat.zero_add]; exact e_row cx hX, fun w G cx => ⟨hf, (hq X (List.mem_of_getElem? hX)).use cx fun w cx => ⟨_, rfl, _, Φ1, inferInstance, cx, Br.intro (fun h => fun w G cx => ?_) (fun h => ⟨by unfold I64; omega, _, Φ1, es.length - (i + 1), inferInstance, fun w F c => c, ⟨i + 1, rfl, hlt, rfl, rfl, rfl, ?_⟩, by omega⟩)⟩⟩⟩⟩
    · have := hk w cx.left
      rw [hor, if_pos h] at this
      exact this
    · rw [hor, if_neg (by rw [h]; simp)]
  · have hge : i = es.length := Nat.le_antisymm hi (by simpa using hge)
    have := hk w cx.left
    rw [hor, hge, List.drop_length] at this
    exact this

theorem findI_none {α : Type} (q : α → Bool) : ∀ (l : List α) (i : Nat), l.any q = false → findI q i l = -1
  | [], _, _ => rfl
  | x :: r, i, h => by
    rw [List.any_cons, Bool.or_eq_false_iff] at h
    unfold findI
    rw [if_neg (by rw [h.1]; simp)]
    exact findI_none q r (i + 1) h.2
theorem findI_some {α : Type} (q : α → Bool) : ∀ (l : List α) (i : Nat), l.any q = true → ∃ j : Nat, findI q i l = ((i + j : Nat) : Int) ∧ ∃ h : j < l.length, q l[j] = true ∧ ∀ x ∈ l.take j, q x = false
  | [], i, h => by simp at h
  | x :: r, i, h => by
    cases hx : q x with
    | true => exact ⟨0, by unfold findI; rw [if_pos hx]; rfl, by simp, by simpa using hx, by simp⟩
    | false =>
      rw [List.any_cons, hx, Bool.false_or] at h
      obtain ⟨j, h1, h2, h3, h4⟩ := findI_some q r (i + 1) h
      refine ⟨j + 1, ?_, by simp; omega, by simpa using h3, fun y hy => ?_⟩
      · unfold findI; rw [if_neg (by rw [hx]; simp), h1]; congr 1; omega
      · rw [List.take_succ_cons] at hy
        rcases List.mem_cons.1 hy with rfl | hy
        · exact hx
        · exact h4 y hy

theorem zeroD : ∀ w : World, (zeroValue 39).run Tryd.prog w = .ok (.agg #[.int .i64 0, .slice none 0 0, .int .i64 0]) w := fun w => by kernel_rfl

set_option maxHeartbeats 2000000 in
/-- what is left after DeleteFunc -/
theorem DeleteE_use {W w : World} {S : List Own} {Φ : PW} [Stable Φ] {p : Option Addr} {cap : Nat} {es : List DE} (c : Ctx W w (bufE p cap es :: S) Φ) (f : FuncId) (cp : Array Value) (q : DE → Bool) (hlen : es.length ≤ 1000000) (hf : okFun Tryd.prog f = true)
    (hq : ∀ x ∈ es, GivesIn Φ Tryd.prog f (Array.mk (x.v :: cp.toList)) (.bool (q x))) {K : Ending → World → Prop}
    (hk : ∀ w', Ctx W w' (bufE p cap (es.filter fun x => !q x) :: S) Φ → K (.returned (.slice p (es.filter fun x => !q x).length cap)) w') :
    Calls Tryd.prog F.slices_DeleteFunc_api_Delta_api_Delta #[.slice p es.length cap, .func (.func f) #[] cp] w K := by
  have hcap : es.length ≤ cap := (c.bufLen 0 rfl).2.1
  have hp : 0 < es.length → ∃ g, p = some ⟨g, 0, none⟩ := fun h => e_ptr c h
  refine (Bslices_DeleteFunc_api_Delta_api_Delta_run p es.length cap f cp (J := fun u w' => K (.returned u) w') c ?_).mono fun e w' ⟨v, he, hj⟩ => by rw [he]; exact hj
  refine fun w G cx => IndexE_use (S := S ++ G) cx f cp q hlen hf hq fun w cx => ⟨_, rfl, bufE p cap es :: S, Φ, inferInstance, cx, ?_⟩
  cases hsome : es.any q with
  | false =>
    rw [findI_none q es 0 hsome]
    have hfil : (es.filter fun x => !q x) = es := List.filter_eq_self.2 fun x hx => by
      have := List.any_eq_false.1 hsome x hx
      simpa using this
    rw [hfil] at hk
    exact Br.intro (fun _ => fun w G cx => hk w cx.left) (fun h => by exfalso; revert h; decide)
  | true =>
  obtain ⟨j0, hj0, hj1, hj2, hj3⟩ := findI_some q es 0 hsome
  rw [Nat.zero_add] at hj0
  obtain ⟨g, rfl⟩ := hp (by omega)
  rw [hj0]
  refine Br.intro (fun h => by have := of_decide_eq_true h; omega) (fun _ => ⟨by unfold I64; omega, ?_⟩)
  have hfil : (es.take j0).filter (fun x => !q x) = es.take j0 := List.filter_eq_self.2 fun x hx => by rw [hj3 x hx]; rfl
  have hstart : (es.take (j0 + 1)).filter (fun x => !q x) = es.take j0 := by
    rw [List.take_succ_eq_append_getElem hj1, List.filter_append, hfil]
    simp [hj2]
  clear cx
  refine exI_mk (fun a n R' Φ' m => ∃ (i j : Nat) (ds : List DE), a = i ∧ n = j ∧ j ≤ es.length ∧ i < j ∧ R' = bufE (some ⟨g, 0, none⟩) cap ds :: S ∧ Φ' = Φ ∧ m = es.length - j ∧ ds.length = es.length ∧ i = ((es.take j).filter fun x => !q x).length ∧ ds.take i = ((es.take j).filter fun x => !q x) ∧ ds.drop j = es.drop j)
    ⟨⟨_, Φ, _, inferInstance, fun w G cx => cx, j0, j0 + 1, es, rfl, by omega, by omega, by omega, rfl, rfl, rfl, rfl, by rw [hstart]; simp; omega, by rw [hstart], rfl⟩, ?_⟩
  rintro _ _ R1 Φ1 m _ ⟨i, j, ds, rfl, rfl, hjl, hij, rfl, rfl, rfl, hcl, hi, hct, hcd⟩
  refine Br.intro (fun hlt => ?_) (fun hge => ?_)
  · have hlt : j < es.length := by simpa using hlt
    have hcj : ds[j]? = some es[j] := by
      have : (ds.drop j)[0]? = (es.drop j)[0]? := by rw [hcd]
      rw [List.getElem?_drop, List.getElem?_drop, Nat.add_zero, List.getElem?_eq_getElem hlt] at this
      exact this
    have hts : (es.take (j + 1)).filter (fun x => !q x) = (es.take j).filter (fun x => !q x) ++ (if q es[j] = true then [] else [es[j]]) := by
      rw [List.take_succ_eq_append_getElem hlt, List.filter_append]
      refine congrArg (fun z => (es.take j).filter (fun x => !q x) ++ z) ?_
      cases h : q es[j] <;> simp [h]
    have hnext : ∀ ds' : List DE, ds'.drop j = es.drop j → ds'.drop (j + 1) = es.drop (j + 1) := fun ds' h => by
      have := congrArg (List.drop 1) h
      rwa [List.drop_drop, List.drop_drop] at this
    obtain ⟨X, hX⟩ : ∃ X, es[j] = X := ⟨_, rfl⟩
    have hXm : X ∈ es := by rw [← hX]; exact List.getElem_mem hlt
    rw [hX] at hcj hts
    refine ⟨by omega, ptrK_intro g 0 rfl fun w G cx => ⟨X.d.time, X.p, X.d.row.length, X.c, X.d.n, by rw [Int.toNat_natCast, Nat.zero_add]; exact e_row cx hcj, fun _ w G cx => ⟨hf, (hq X hXm).use cx fun w cx => ⟨_, rfl, _, Φ1, inferInstance, cx, Br.intro (fun h => ⟨by omega, ptrK_intro g 0 rfl fun w G cx => ⟨by rw [Int.toNat_natCast, Nat.zero_add]; exact e_can cx (by omega), fun w' hw' => ?_⟩⟩) (fun h => ?_)⟩⟩⟩⟩
    · rw [Int.toNat_natCast, Nat.zero_add] at hw'
      have cx1 := e_put cx (i := i) (by omega) X hw'
      have h : q X = false := by simpa using h
      rw [if_neg (by rw [h]; simp)] at hts
      refine ⟨bufE (some ⟨g, 0, none⟩) cap (ds.set i X) :: S, Φ1, inferInstance, cx1, by unfold I64; omega, by unfold I64; omega, _, Φ1, es.length - (j + 1), inferInstance, fun w G cx => cx, ⟨i + 1, j + 1, ds.set i X, by omega, by omega, hlt, by omega, rfl, rfl, rfl, by simp [hcl], by rw [hts, List.length_append, ← hi]; rfl, ?_, hnext _ ?_⟩, by omega⟩
      · rw [hts, ← hct, List.take_succ_eq_append_getElem (by simp [hcl]; omega), List.take_set_of_le (Nat.le_refl _), List.getElem_set_self]
      · rw [List.drop_set_of_lt (by omega)]; exact hcd
    · have h : q X = true := by simpa using h
      rw [if_pos h, List.append_nil] at hts
      exact ⟨by unfold I64; omega, _, Φ1, es.length - (j + 1), inferInstance, fun w G cx => cx, ⟨i, j + 1, ds, rfl, by omega, hlt, by omega, rfl, rfl, rfl, hcl, by rw [hts]; exact hi, by rw [hts]; exact hct, hnext _ hcd⟩, by omega⟩
  · have hge : j = es.length := Nat.le_antisymm hjl (by simpa using hge)
    subst hge
    rw [List.take_length] at hi hct
    refine ⟨by omega, fun w G cx => ?_⟩
    have hne : ¬ cap = i := by omega
    have hsub : subPtr (some ⟨g, 0, none⟩) 3 (i : Int).toNat cap = some ⟨g, i * 3, none⟩ := by
      unfold subPtr
      rw [Int.toNat_natCast, if_neg hne, Option.map_some]
      refine congrArg some ?_
      unfold Addr.add
      split
      · rename_i h; rw [h]
      · show Addr.mk g (0 + i * 3) none = _
        rw [Nat.zero_add]
    rw [hsub, Int.toNat_natCast]
    have hcan : CanWrite w g (i * 3) ((es.length - i) * 3) := cx.bufCan 0 rfl rfl (by rw [cellsE_len, hcl]; omega)
    have hrun := run_clear_cells (P := Tryd.prog) w 22 39 0 (.agg #[.int .i64 0, .slice none 0 0, .int .i64 0]) Tryd.underlying22 zeroD (by decide) (by decide) g (i * 3) (es.length - i) (cap - i) (by omega) (fun t ht => (hcan t ht).1) (fun t ht => (hcan t ht).2)
    have hzl : (Builtin.zeroCells (Value.agg #[.int .i64 0, .slice none 0 0, .int .i64 0]).cells (es.length - i)).toList.length = (es.length - i) * 3 := by
      simp only [Builtin.zeroCells, Array.toList_map, List.length_map]
      rw [Array.length_toList, Array.size_range]; rfl
    have cx1 := cx.bufPuts 0 rfl rfl (by rw [cellsE_len, hcl]; omega) (by rw [cellsE_len, hcl, hzl]; omega) (w' := w.setCells g (i * 3) (Builtin.zeroCells (Value.agg #[.int .i64 0, .slice none 0 0, .int .i64 0]).cells (es.length - i)).toList) rfl
    have cx2 := Ctx.bufShrink (i := i) cx1 (by omega)
    rw [setL_low, cellsE_take, hct] at cx2
    have hlf : (es.filter fun x => !q x).length = i := hi.symm
    have e2 : subPtr (some ⟨g, 0, none⟩) 3 0 cap = some ⟨g, 0, none⟩ := by
      unfold subPtr
      split
      · rfl
      · simp [Addr.add]
    refine ⟨_, run_clr hrun, bufE (some ⟨g, 0, none⟩) cap (es.filter fun x => !q x) :: S, Φ1, inferInstance, by unfold bufE; rw [hlf]; exact cx2, by omega, fun w G cx => ?_⟩
    rw [e2, ← hlf]
    exact hk w cx.left

/-! ### Upto, After -/
/-- a captured int -/
theorem late1_in {Φ : PW} [Stable Φ] (x : DeltaD) (p : Option Addr) (cap : Nat) (k : Nat) (t : Int) (hΦ : ∀ M w, Φ M w → w.cell? ⟨k, 0, none⟩ = some (.int .i64 t)) : GivesIn Φ Tryd.prog F.delta_Upto_1 #[x.v p cap, .pointer (some ⟨k, 0, none⟩)] (.bool (decide (t < x.time))) := by
  refine gives_in (Bdelta_Upto_1_run x.time p x.row.length cap x.n k 0) fun W R => ?_
  exact fun _ w G cx => ⟨t, hΦ _ _ cx.phi, fun w G cx => ⟨rfl, cx.left⟩⟩
theorem early1_in {Φ : PW} [Stable Φ] (x : DeltaD) (p : Option Addr) (cap : Nat) (k : Nat) (t : Int) (hΦ : ∀ M w, Φ M w → w.cell? ⟨k, 0, none⟩ = some (.int .i64 t)) : GivesIn Φ Tryd.prog F.delta_After_1 #[x.v p cap, .pointer (some ⟨k, 0, none⟩)] (.bool (decide (x.time ≤ t))) := by
  refine gives_in (Bdelta_After_1_run x.time p x.row.length cap x.n k 0) fun W R => ?_
  exact fun _ w G cx => ⟨t, hΦ _ _ cx.phi, fun w G cx => ⟨rfl, cx.left⟩⟩

abbrev lowP (l : List DeltaD) (t : Int) : List DeltaD := l.filter fun x : DeltaD => decide (x.time ≤ t)
abbrev highP (l : List DeltaD) (t : Int) : List DeltaD := l.filter fun x : DeltaD => decide (t < x.time)
def uptoP (l : List DeltaD) (t : Int) : List DeltaD := consP (lowP l t)
def afterP (l : List DeltaD) (t : Int) : List DeltaD := consP (highP l t)

theorem map_filterE (es : List DE) (q : DeltaD → Bool) : (es.filter fun x => q x.d).map DE.d = (es.map DE.d).filter q := by
  rw [List.filter_map]; rfl

theorem Upto_sl {Φ : PW} [Stable Φ] (p : Option Addr) (cap : Nat) (l : List DeltaD) (t : Int) (hΦ : ∀ M w, Φ M w → Sl M w p l) (hlen : l.length ≤ 1000000) (hrow : ∀ x ∈ l, x.row.length ≤ 1000000) :
    GivesSl Φ Tryd.prog F.delta_Upto #[.slice p l.length cap, .int .i64 t] (uptoP l t) id := by
  refine gives_sl (Bdelta_Upto_run p l.length cap t) fun W R => ?_
  intro k w G cx
  refine (CloneD_in p cap l hΦ (by omega)).use cx fun p1 c1 cs w cx => ?_
  obtain ⟨es, rfl, hes⟩ := elems_ex cx.phi.2
  have hl : l.length = es.length := by rw [← hes, List.length_map]
  have cx1 : Ctx W w (.blk k [.int .i64 t] 3 :: bufE p1 c1 es :: (R ++ G)) (fun M w => Φ M w ∧ EPhi es M w) := by
    have h1 := (cx.weak (Ψ := fun M w => Φ M w ∧ EPhi es M w) fun M w h => ⟨h.1, elems_e (by rw [hes]; exact h.2)⟩).swap
    rw [hl] at h1
    exact h1
  refine ⟨p1, l.length, c1, rfl, .blk k [.int .i64 t] 3 :: bufE p1 c1 es :: R, _, inferInstance, cx1, fun w G cx => ?_⟩
  rw [hl]
  have cx2 : Ctx W w (bufE p1 c1 es :: (R ++ G)) (Go.Vc.Aside W [.blk k [.int .i64 t] 3] fun M w => Φ M w ∧ EPhi es M w) := cx.aside (Q := [.blk k [.int .i64 t] 3])
  have hcell : ∀ M w, Go.Vc.Aside W [.blk k [.int .i64 t] 3] (fun M w => Φ M w ∧ EPhi es M w) M w → w.cell? ⟨k, 0, none⟩ = some (.int .i64 t) := fun M w h => by
    have := (h.parked (o := .blk k [.int .i64 t] 3) (by simp)).1
    exact (show Blk w k [.int .i64 t] 3 from this).cell_eq rfl
  refine DeleteE_use (S := R ++ G) cx2 F.delta_Upto_1 #[.pointer (some ⟨k, 0, none⟩)] (fun x => decide (t < x.d.time)) (by omega) (by kernel_rfl) (fun x _ => late1_in x.d x.p x.c k t hcell) fun w cx => ?_
  have hfil : (es.filter fun x : DE => !decide (t < x.d.time)) = es.filter fun x : DE => decide (x.d.time ≤ t) := List.filter_congr fun x _ => by
    by_cases h : t < x.d.time
    · rw [decide_eq_true h, decide_eq_false (by omega)]; rfl
    · rw [decide_eq_false h, decide_eq_true (by omega)]; rfl
  rw [hfil] at cx ⊢
  have hmap : (es.filter fun x : DE => decide (x.d.time ≤ t)).map DE.d = lowP l t := by rw [← hes]; exact map_filterE es (fun x : DeltaD => decide (x.time ≤ t))
  obtain ⟨fs, hfs⟩ : ∃ fs, (es.filter fun x : DE => decide (x.d.time ≤ t)) = fs := ⟨_, rfl⟩
  have hsub : ∀ x ∈ fs, x ∈ es := fun x hx => by rw [← hfs] at hx; exact (List.mem_filter.1 hx).1
  rw [hfs] at cx hmap ⊢
  have cx3 : Ctx W w (bufE p1 c1 fs :: (R ++ G)) (fun M w => Φ M w ∧ EPhi fs M w) := (cx.unaside.sub (List.sublist_cons_self _ _)).weak fun M w h => ⟨h.1, fun x hx => h.2 x (hsub x hx)⟩
  obtain ⟨ho, hle⟩ : (lowP l t).length = fs.length ∧ fs.length ≤ es.length := ⟨by rw [← hmap, List.length_map], by rw [← hfs]; exact List.length_filter_le _ _⟩
  have cx4 : Ctx W w (.buf p1 (fs.map DE.d).length c1 (cellsE fs) 39 3 :: (R ++ G)) (fun M w => Φ M w ∧ EPhi fs M w) := by rw [List.length_map]; exact cx3
  obtain ⟨cx5, hs, _⟩ := Ctx.freeze (α := DeltaD) (l := fs.map DE.d) cx4.fst (e_elems cx4.phi.2)
  rw [hmap] at hs
  refine ⟨p1, fs.length, c1, rfl, R, fun M w => Φ M w ∧ Sl M w p1 (lowP l t), inferInstance, cx5.add hs, fun w G cx => ?_⟩
  rw [← ho]
  refine (Consolidate_sl (Φ := fun M w => Φ M w ∧ Sl M w p1 (lowP l t)) p1 c1 (lowP l t) (fun M w h => h.2) (by omega) (fun x hx => hrow x (List.mem_filter.1 hx).1)).use cx fun p3 c3 w h1 h2 cx => ⟨p3, _, c3, rfl, R, fun M w => Φ M w ∧ Sl M w p3 (uptoP l t), inferInstance, cx.weak fun M w h => ⟨h.1.1, h.2⟩, fun w G cx => ⟨p3, c3, rfl, h1, h2, cx.left⟩⟩

theorem After_sl {Φ : PW} [Stable Φ] (p : Option Addr) (cap : Nat) (l : List DeltaD) (t : Int) (hΦ : ∀ M w, Φ M w → Sl M w p l) (hlen : l.length ≤ 1000000) (hrow : ∀ x ∈ l, x.row.length ≤ 1000000) :
    GivesSl Φ Tryd.prog F.delta_After #[.slice p l.length cap, .int .i64 t] (afterP l t) id := by
  refine gives_sl (Bdelta_After_run p l.length cap t) fun W R => ?_
  intro k w G cx
  refine (CloneD_in p cap l hΦ (by omega)).use cx fun p1 c1 cs w cx => ?_
  obtain ⟨es, rfl, hes⟩ := elems_ex cx.phi.2
  have hl : l.length = es.length := by rw [← hes, List.length_map]
  have cx1 : Ctx W w (.blk k [.int .i64 t] 3 :: bufE p1 c1 es :: (R ++ G)) (fun M w => Φ M w ∧ EPhi es M w) := by
    have h1 := (cx.weak (Ψ := fun M w => Φ M w ∧ EPhi es M w) fun M w h => ⟨h.1, elems_e (by rw [hes]; exact h.2)⟩).swap
    rw [hl] at h1
    exact h1
  refine ⟨p1, l.length, c1, rfl, .blk k [.int .i64 t] 3 :: bufE p1 c1 es :: R, _, inferInstance, cx1, fun w G cx => ?_⟩
  rw [hl]
  have cx2 : Ctx W w (bufE p1 c1 es :: (R ++ G)) (Go.Vc.Aside W [.blk k [.int .i64 t] 3] fun M w => Φ M w ∧ EPhi es M w) := cx.aside (Q := [.blk k [.int .i64 t] 3])
  have hcell : ∀ M w, Go.Vc.Aside W [.blk k [.int .i64 t] 3] (fun M w => Φ M w ∧ EPhi es M w) M w → w.cell? ⟨k, 0, none⟩ = some (.int .i64 t) := fun M w h => by
    have := (h.parked (o := .blk k [.int .i64 t] 3) (by simp)).1
    exact (show Blk w k [.int .i64 t] 3 from this).cell_eq rfl
  refine DeleteE_use (S := R ++ G) cx2 F.delta_After_1 #[.pointer (some ⟨k, 0, none⟩)] (fun x => decide (x.d.time ≤ t)) (by omega) (by kernel_rfl) (fun x _ => early1_in x.d x.p x.c k t hcell) fun w cx => ?_
  have hfil : (es.filter fun x : DE => !decide (x.d.time ≤ t)) = es.filter fun x : DE => decide (t < x.d.time) := List.filter_congr fun x _ => by
    by_cases h : x.d.time ≤ t
    · rw [decide_eq_true h, decide_eq_false (by omega)]; rfl
    · rw [decide_eq_false h, decide_eq_true (by omega)]; rfl
  rw [hfil] at cx ⊢
  have hmap : (es.filter fun x : DE => decide (t < x.d.time)).map DE.d = highP l t := by rw [← hes]; exact map_filterE es (fun x : DeltaD => decide (t < x.time))
  obtain ⟨fs, hfs⟩ : ∃ fs, (es.filter fun x : DE => decide (t < x.d.time)) = fs := ⟨_, rfl⟩
  have hsub : ∀ x ∈ fs, x ∈ es := fun x hx => by rw [← hfs] at hx; exact (List.mem_filter.1 hx).1
  rw [hfs] at cx hmap ⊢
  have cx3 : Ctx W w (bufE p1 c1 fs :: (R ++ G)) (fun M w => Φ M w ∧ EPhi fs M w) := (cx.unaside.sub (List.sublist_cons_self _ _)).weak fun M w h => ⟨h.1, fun x hx => h.2 x (hsub x hx)⟩
  obtain ⟨ho, hle⟩ : (highP l t).length = fs.length ∧ fs.length ≤ es.length := ⟨by rw [← hmap, List.length_map], by rw [← hfs]; exact List.length_filter_le _ _⟩
  have cx4 : Ctx W w (.buf p1 (fs.map DE.d).length c1 (cellsE fs) 39 3 :: (R ++ G)) (fun M w => Φ M w ∧ EPhi fs M w) := by rw [List.length_map]; exact cx3
  obtain ⟨cx5, hs, _⟩ := Ctx.freeze (α := DeltaD) (l := fs.map DE.d) cx4.fst (e_elems cx4.phi.2)
  rw [hmap] at hs
  refine ⟨p1, fs.length, c1, rfl, R, fun M w => Φ M w ∧ Sl M w p1 (highP l t), inferInstance, cx5.add hs, fun w G cx => ?_⟩
  rw [← ho]
  refine (Consolidate_sl (Φ := fun M w => Φ M w ∧ Sl M w p1 (highP l t)) p1 c1 (highP l t) (fun M w h => h.2) (by omega) (fun x hx => hrow x (List.mem_filter.1 hx).1)).use cx fun p3 c3 w h1 h2 cx => ⟨p3, _, c3, rfl, R, fun M w => Φ M w ∧ Sl M w p3 (afterP l t), inferInstance, cx.weak fun M w h => ⟨h.1.1, h.2⟩, fun w G cx => ⟨p3, c3, rfl, h1, h2, cx.left⟩⟩

end Go.Proofs.YtnapfhbibikbiaaDoor
end

/-
  Consolidated, walked; DifferenceLeast in plain Lean, and walked.
-/
section
set_option linter.unusedVariables false
set_option linter.unusedSimpArgs false
namespace Go.Proofs.YtnapfhbibikbiaaDoor
open Go.Vc


def consAt (l : List DeltaD) (j : Nat) : Bool := match l[j]? with
  | none => false
  | some y => decide (y.n ≠ 0) && match j with
    | 0 => true
    | i + 1 => match l[i]? with
      | none => false
      | some x => decide (cmpD x y < 0)
def consolidated (l : List DeltaD) : Bool := (List.range l.length).all fun j => consAt l j

theorem find_cons (l : List DeltaD) (k : Key) : findP (consP l) k = findP l k := (consP_norm l).2 k
theorem find_add (a b : List DeltaD) (k : Key) : findP (addP a b) k = w64 (findP a k + findP b k) := by
  unfold addP
  rw [find_cons, findP_app]
abbrev Rows1 (l : List DeltaD) : Prop := ∀ x ∈ l, x.row.length ≤ 1000000
end Go.Proofs.YtnapfhbibikbiaaDoor
end

/-
  STEPS of a walk: a call whose contract is known, and what follows it.
-/
section
set_option linter.unusedVariables false
set_option linter.unusedSimpArgs false
namespace Go.Vc

section
variable {P : Program} {W w : World} {R G : List Own} {Φ Ψ : PW} {f : FuncId} {args : Array Value}

/-- what is known holds this, too -/
class Has (Φ Ψ : PW) : Prop where
  go : ∀ M w, Φ M w → Ψ M w
instance (priority := 2000) hasRefl (Φ : PW) : Has Φ Φ := ⟨fun _ _ h => h⟩
instance (priority := 900) hasL (A B Ψ : PW) [h : Has A Ψ] : Has (fun M w => A M w ∧ B M w) Ψ := ⟨fun M w x => h.go M w x.1⟩
instance (priority := 1000) hasR (A B Ψ : PW) [h : Has B Ψ] : Has (fun M w => A M w ∧ B M w) Ψ := ⟨fun M w x => h.go M w x.2⟩
instance hasTrue (Φ : PW) : Has Φ (fun _ _ => True) := ⟨fun _ _ _ => trivial⟩
instance (priority := 800) hasAnd (Φ A B : PW) [h : Has Φ A] [k : Has Φ B] : Has Φ (fun M w => A M w ∧ B M w) := ⟨fun M w x => ⟨h.go M w x, k.go M w x⟩⟩

theorem Ctx.has (c : Ctx W w R Φ) [h : Has Φ Ψ] : Ctx W w R Ψ := c.weak h.go

theorem GivesSl.to [Stable Φ] {α : Type} [Gv α] {l : List α} (h : GivesSl Φ P f args l id) (c : Ctx W w (R ++ G) Φ) {K : Option Addr → Nat → Nat → List Own → PW → Prop}
    (hk : ∀ p cap, l.length ≤ cap → cap ≤ maxLen → Stable (fun M w => Φ M w ∧ Sl M w p l) → K p l.length cap R (fun M w => Φ M w ∧ Sl M w p l)) :
    Calls P f args w fun e w' => ∃ p n c, e = .returned (.slice p n c) ∧ ∃ R' Φ', Stable Φ' ∧ Ctx W w' (R' ++ G) Φ' ∧ K p n c R' Φ' :=
  h.use c fun p cap w' h1 h2 c => ⟨p, _, cap, rfl, R, _, inferInstance, c, hk p cap h1 h2 inferInstance⟩

theorem GivesIn.toB [Stable Φ] {b : Bool} (h : GivesIn Φ P f args (.bool b)) (c : Ctx W w (R ++ G) Φ) {K : Bool → List Own → PW → Prop} (hk : K b R Φ) :
    Calls P f args w fun e w' => ∃ c, e = .returned (.bool c) ∧ ∃ R' Φ', Stable Φ' ∧ Ctx W w' (R' ++ G) Φ' ∧ K c R' Φ' :=
  h.use c fun w' c => ⟨b, rfl, R, Φ, inferInstance, c, hk⟩
theorem GivesIn.toI [Stable Φ] {n : Int} {k : IntKind} (h : GivesIn Φ P f args (.int k n)) (c : Ctx W w (R ++ G) Φ) {K : Int → List Own → PW → Prop} (hk : K n R Φ) :
    Calls P f args w fun e w' => ∃ c, e = .returned (.int k c) ∧ ∃ R' Φ', Stable Φ' ∧ Ctx W w' (R' ++ G) Φ' ∧ K c R' Φ' :=
  h.use c fun w' c => ⟨n, rfl, R, Φ, inferInstance, c, hk⟩
theorem GivesIn.toS [Stable Φ] {s : ByteArray} (h : GivesIn Φ P f args (.string s)) (c : Ctx W w (R ++ G) Φ) {K : ByteArray → List Own → PW → Prop} (hk : K s R Φ) :
    Calls P f args w fun e w' => ∃ c, e = .returned (.string c) ∧ ∃ R' Φ', Stable Φ' ∧ Ctx W w' (R' ++ G) Φ' ∧ K c R' Φ' :=
  h.use c fun w' c => ⟨s, rfl, R, Φ, inferInstance, c, hk⟩

/-- .. of which less is kept -/
theorem GivesSl.toW [Stable Φ] [hs : Stable Ψ] {α : Type} [Gv α] {l : List α} (h : GivesSl Φ P f args l id) (c : Ctx W w (R ++ G) Φ) [hw : Has Φ Ψ] {K : Option Addr → Nat → Nat → List Own → PW → Prop}
    (hk : ∀ p cap, l.length ≤ cap → cap ≤ maxLen → Stable (fun M w => Ψ M w ∧ Sl M w p l) → K p l.length cap R (fun M w => Ψ M w ∧ Sl M w p l)) :
    Calls P f args w fun e w' => ∃ p n c, e = .returned (.slice p n c) ∧ ∃ R' Φ', Stable Φ' ∧ Ctx W w' (R' ++ G) Φ' ∧ K p n c R' Φ' :=
  h.use c fun p cap w' h1 h2 c => ⟨p, _, cap, rfl, R, _, inferInstance, c.weak fun M w h => ⟨hw.go M w h.1, h.2⟩, hk p cap h1 h2 inferInstance⟩
theorem GivesIn.toBW [hs : Stable Ψ] {b : Bool} (h : GivesIn Φ P f args (.bool b)) (c : Ctx W w (R ++ G) Φ) [hw : Has Φ Ψ] {K : Bool → List Own → PW → Prop} (hk : K b R Ψ) :
    Calls P f args w fun e w' => ∃ c, e = .returned (.bool c) ∧ ∃ R' Φ', Stable Φ' ∧ Ctx W w' (R' ++ G) Φ' ∧ K c R' Φ' :=
  h.use c fun w' c => ⟨b, rfl, R, Ψ, inferInstance, c.has, hk⟩

/-- .. with the place of the slice -/
theorem GivesSl.tot [Stable Φ] {α : Type} [Gv α] {l : List α} (h : GivesSl Φ P f args l id) (c : Ctx W w (R ++ G) Φ) {K : Option Addr → Nat → Nat → List Own → PW → Prop}
    (hk : ∀ p cap, l.length ≤ cap → cap ≤ maxLen → There p l.length → Stable (fun M w => Φ M w ∧ Sl M w p l) → K p l.length cap R (fun M w => Φ M w ∧ Sl M w p l)) :
    Calls P f args w fun e w' => ∃ p n c, e = .returned (.slice p n c) ∧ ∃ R' Φ', Stable Φ' ∧ Ctx W w' (R' ++ G) Φ' ∧ K p n c R' Φ' :=
  h.use c fun p cap w' h1 h2 c => ⟨p, _, cap, rfl, R, _, inferInstance, c, hk p cap h1 h2 c.phi.2.there inferInstance⟩
/-- the end -/
theorem fin [Stable Φ] [Stable Ψ] [hw : Has Ψ Φ] {v : Value} (c : Ctx W w (R ++ G) Ψ) : v = v ∧ Ctx W w R Φ := ⟨rfl, (Ctx.has c).left⟩

end
end Go.Vc
end

