/-
  Copies of lines, out of a slice that is told or owned; Lines, Line, Batch.
-/
import Derived.Test.YtjlfpkgjcffilaaGreatDoorSB6
import Derived.Lib.AppendZeros
import Derived.Test.YtjlfpkgjcffilaaGreatDoorSB5
import Derived.Lib.SliceRun

section
set_option linter.unusedVariables false
set_option linter.unusedSimpArgs false
namespace Go.Proofs.YtjlfpkgjcffilaaGreatDoor
open Go.Vc


theorem elems_len7 {M : List Nat} {w : World} {cs : List Value} {l : List LineD} (h : Elems M w cs l) : cs.length = l.length * 7 := h.1
theorem elems_one7 {M : List Nat} {w : World} {cs : List Value} {l : List LineD} (h : Elems M w cs l) : (cs.all fun u => oneC u) = true := by
  have h1 := elems_len7 h
  refine List.all_eq_true.2 fun u hu => ?_
  obtain ⟨j, hj, rfl⟩ := List.getElem_of_mem hu
  have hi : j / 7 < l.length := by omega
  obtain ⟨p, c, e, _⟩ := lrow h hi
  have ha : (((cs.drop (j / 7 * 7)).take 7).all fun u => oneC u) = true := by rw [e]; rfl
  have hm : cs[j] ∈ (cs.drop (j / 7 * 7)).take 7 := by
    refine List.mem_iff_getElem?.2 ⟨j % 7, ?_⟩
    rw [List.getElem?_take_of_lt (by omega), List.getElem?_drop, show j / 7 * 7 + j % 7 = j by omega, List.getElem?_eq_getElem hj]
  exact List.all_eq_true.1 ha _ hm
/-- lines that can be read -/
structure Src (S : List Own) (Φ : PW) (p : Option Addr) (l : List LineD) (cs : List Value) : Prop where
  ptr : 0 < l.length → ∃ b o, p = some ⟨b, o, none⟩
  rd : ∀ {W w : World} {G : List Own} {b o : Nat}, p = some ⟨b, o, none⟩ → Ctx W w (S ++ G) Φ → ∀ j v, cs[j]? = some v → w.cell? ⟨b, o + j, none⟩ = some v
  el : ∀ M w, Φ M w → Elems M w cs l

section
variable {Φ : PW} {q : LP} {st : LedD} {W w : World} {R S G : List Own} {p : Option Addr} {cap : Nat} {l : List LineD} {cs : List Value}

theorem Src.more {Ψ : PW} (h : Src S Φ p l cs) (hi : ∀ M w, Ψ M w → Φ M w) : Src S Ψ p l cs := ⟨h.ptr, fun e c => h.rd e (c.weak hi), fun M w x => h.el M w (hi M w x)⟩
theorem Src.app (h : Src S Φ p l cs) : Src (S ++ R) Φ p l cs := ⟨h.ptr, fun e c => h.rd e (c.re (List.append_assoc _ _ _)), h.el⟩

/-- lines that facts tell of -/
def SrcF (p : Option Addr) (l : List LineD) (cs : List Value) : PW := fun M w => (∀ b o, p = some ⟨b, o, none⟩ → 0 < l.length → RowIn b o cs M w) ∧ Elems M w cs l
instance instStableSrcF (p : Option Addr) (l : List LineD) (cs : List Value) : Stable (SrcF p l cs) := ⟨fun hs h => ⟨fun b o e h0 => Stable.step (Φ := fun M w => RowIn b o cs M w) hs (h.1 b o e h0), Stable.step (Φ := fun M w => Elems M w cs l) hs h.2⟩⟩
theorem srcOf (c : Ctx W w S Φ) (h : Sl (dom S) w p l) : ∃ cs, Ctx W w S (fun M w => Φ M w ∧ SrcF p l cs M w) := by
  rcases Nat.eq_zero_or_pos l.length with h0 | h0
  · have hl : l = [] := List.eq_nil_of_length_eq_zero h0
    subst hl
    exact ⟨[], c.add ⟨fun _ _ _ h => by simp at h, Elems.nil⟩⟩
  · obtain ⟨b, o, news, hp, g1, g2, g3, g4⟩ := h.cells line_one h0
    obtain ⟨b', o', _, e', hb, hr, _⟩ := h 0 h0
    rw [hp] at e'
    cases e'
    refine ⟨news, c.add ⟨fun b' o' e _ => ?_, g3⟩⟩
    rw [hp] at e
    cases e
    refine ⟨hb, fun j hj => g2 j _ (List.getElem?_eq_getElem hj), ?_⟩
    have hsz : (Gv.ty LineD).size = 7 := rfl
    rw [hsz] at g1
    have := g2 0 _ (List.getElem?_eq_getElem (by omega))
    rcases Nat.lt_or_ge b w.heap.size with h' | h'
    · exact h'
    · simp [World.cell?, Array.getElem?_eq_none h'] at this
theorem src_fact (hth : There p l.length) (hf : ∀ M w, Φ M w → SrcF p l cs M w) : Src [] Φ p l cs where
  ptr := hth
  rd := fun {W w G b o} e c j v hj => by
    have hl := elems_len7 (hf _ _ c.phi).2
    have hjl : j < cs.length := (List.getElem?_eq_some_iff.1 hj).1
    have := ((hf _ _ c.phi).1 b o e (by omega)).2.1 j hjl
    rw [this, ← hj, List.getElem?_eq_getElem hjl]
  el := fun M w h => (hf M w h).2

theorem CloneL_new [Stable Φ] (src : Src S Φ p l cs) (hlen : l.length ≤ 1000000) (c : Ctx W w S Φ) :
    Calls Tryz.prog F.slices_Clone_api_Line_api_Line #[.slice p l.length cap] w fun e w' => ∃ p' c' cs', e = .returned (.slice p' l.length c') ∧ Ctx W w' (bufL p' l.length c' cs' :: S) (fun M w => Φ M w ∧ Elems M w cs' l) := by
  refine (Bslices_Clone_api_Line_api_Line_run p l.length cap (J := fun v w' => ∃ p' c' cs', v = .slice p' l.length c' ∧ Ctx W w' (bufL p' l.length c' cs' :: S) (fun M w => Φ M w ∧ Elems M w cs' l)) c ?_).mono fun e w' ⟨v, he, p', c', cs', hv, rest⟩ => ⟨p', c', cs', by rw [he, hv], rest⟩
  clear c
  refine Br.intro (fun hn => fun w F c => ?_) (fun hn => fun k w F c => ?_)
  · have hl : l = [] := by
      rcases Nat.eq_zero_or_pos l.length with h0 | h0
      · exact List.eq_nil_of_length_eq_zero h0
      · obtain ⟨b, o, e⟩ := src.ptr h0
        rw [e] at hn; cases hn
    subst hl
    exact ⟨none, 0, [], rfl, (c.left.buf0 46 7).add Elems.nil⟩
  · have c' : Ctx W w (bufL (some ⟨k, 0, none⟩) 0 0 [] :: (S ++ F)) Φ := c.toBuf 0 0 7 rfl (by simp) (by simp [maxLen])
    obtain ⟨i, z, e1, e2, e3, e4, e5, e6⟩ := appB_out (P := Tryz.prog) (ts := 33) (t := 46) (size := 7) (bytes := 72) (by kernel_rfl)
    rcases Nat.eq_zero_or_pos l.length with h0 | h0
    · have hl : l = [] := List.eq_nil_of_length_eq_zero h0
      subst hl
      exact ⟨_, _, _, w, run_app (c'.append0 0 rfl e1 e2 p cap), bufL (some ⟨k, 0, none⟩) 0 0 [] :: S, _, instStableAnd Φ (fun M w => Elems M w [] ([] : List LineD)), c'.add Elems.nil, fun w G c => ⟨some ⟨k, 0, none⟩, 0, [], rfl, c.left⟩⟩
    · obtain ⟨b, o, hp⟩ := src.ptr h0
      have hel := src.el _ _ c'.phi
      have hcl := elems_len7 hel
      obtain ⟨p', cap', w', hrun, cx⟩ := c'.append 0 rfl (ty := 33) e1 e2 e3 e4 e5 (a := ⟨b, o, none⟩) (m := l.length) (c2 := cap) (news := cs) h0 hcl (fun j u hj => by rw [addr_add]; exact src.rd hp c'.drop1 j u hj) (fun u hu => List.all_eq_true.1 (elems_one7 hel) u hu) (by rw [e6]; omega) (by omega)
      rw [← hp, Nat.zero_add] at hrun
      rw [Nat.zero_add] at cx
      exact ⟨_, _, _, w', run_app hrun, bufL p' l.length cap' cs :: S, _, instStableAnd Φ (fun M w => Elems M w cs l), cx.weak fun M w h => ⟨h, src.el M w h⟩, fun w G c => ⟨p', cap', cs, rfl, c.left⟩⟩

theorem CloneV_sl [Stable Φ] {r : List ValD} [hΦ : Has Φ (fun M w => Sl M w p r)] (hlen : r.length ≤ 1000000) : GivesSl Φ Tryz.prog F.slices_Clone_api_Value_api_Value #[.slice p r.length cap] r id :=
  ⟨fun W w S c => (CloneV_in (Φ := Φ) p cap r (fun M w h => hΦ.go M w h) (by omega)).use c fun p1 cap1 ds w cx => by
    obtain ⟨c2, hs, _, h2, h3⟩ := Ctx.freeze (α := ValD) cx cx.phi.2
    exact ⟨p1, cap1, rfl, h2, h3, (c2.add hs).weak fun M w h => ⟨h.1.1, h.2⟩⟩⟩

/-- the row of a line is replaced by an equal one -/
theorem l_row {W w w' : World} {S : List Own} {Φ : PW} [Stable Φ] {g n cap : Nat} {cs : List Value} {l : List LineD} (cx : Ctx W w (bufL (some ⟨g, 0, none⟩) n cap cs :: S) (fun M w => Φ M w ∧ Elems M w cs l)) {i : Nat} (hi : i < l.length) {p : Option Addr} {c : Nat}
    (h1 : l[i].row.length ≤ c) (h2 : c ≤ maxLen) (hs : ∀ M w, Φ M w → Sl M w p l[i].row) (e : w' = w.setCell ⟨g, i * 7 + 3, none⟩ (.slice p l[i].row.length c)) :
    ∃ cs', Ctx W w' (bufL (some ⟨g, 0, none⟩) n cap cs' :: S) (fun M w => Φ M w ∧ Elems M w cs' l) := by
  have hl := lcells_len cx.phi.2
  obtain ⟨p0, c0, hp, _, _, h3, _⟩ := lrow cx.phi.2 hi
  have h := cx.bufPuts 0 rfl rfl (vs := [.slice p l[i].row.length c]) (o := i * 7 + 3) (by omega) (by simp only [List.length_cons, List.length_nil]; omega) e
  have hrows := rows_of (vs := l[i].cells p0 c0) hp
  rw [setL_cell (l[i].cells p0 c0) 3 cs (i * 7) _ (by show 3 < 7; decide) hrows, show (l[i].cells p0 c0).set 3 (.slice p l[i].row.length c) = l[i].cells p c from rfl] at h
  refine ⟨_, h.weak fun M w h => ⟨h.1, ?_⟩⟩
  have := h.2.setAt i hi (rep_line h1 h2 h3 (hs M w h.1))
  rw [List.set_getElem_self] at this
  exact this

end
end Go.Proofs.YtjlfpkgjcffilaaGreatDoor
end

/-
  Consolidate, walked.
-/
section
set_option linter.unusedVariables false
set_option linter.unusedSimpArgs false
namespace Go.Proofs.YtjlfpkgjcffilaaGreatDoor
open Go.Vc


/-! ### one group, in plain Lean -/
theorem seg_sum {seg : List DeltaD} {k0 : Key} (h : ∀ x ∈ seg, x.key = k0) (k : Key) (hk : k ≠ k0) : sumK seg k = 0 := sumK_none fun x hx e => hk (by rw [← e, h x hx])

theorem Norm.snoc {c : List DeltaD} {x : DeltaD} (h : Norm c) (h1 : ∀ y ∈ c, cmpK y.key x.key < 0) (h2 : x.n ≠ 0) (h3 : I64 x.n) : Norm (c ++ [x]) := by
  refine ⟨List.pairwise_append.2 ⟨h.asc, List.pairwise_singleton _ _, fun y hy z hz => ?_⟩, fun y hy => ?_, fun y hy => ?_⟩
  · rw [List.mem_singleton.1 hz, cmpD_key]; exact h1 y hy
  · rcases List.mem_append.1 hy with hy | hy
    · exact h.nz y hy
    · rw [List.mem_singleton.1 hy]; exact h2
  · rcases List.mem_append.1 hy with hy | hy
    · exact h.i64 y hy
    · rw [List.mem_singleton.1 hy]; exact h3

/-- a group is put as one element, or left out -/
theorem find_group {A seg C : List DeltaD} {k0 : Key} {N : Int} (h : ∀ x ∈ seg, x.key = k0) (hN : N = findP seg k0) (k : Key) :
    (findP (A ++ (⟨k0.1, k0.2, N⟩ :: C)) k = findP (A ++ (seg ++ C)) k) ∧ (N = 0 → findP (A ++ C) k = findP (A ++ (seg ++ C)) k) := by
  have key : (((if k0 = k then N else 0) : Int) - sumK seg k) % 18446744073709551616 = 0 := by
    by_cases hk : k0 = k
    · subst hk
      rw [if_pos rfl, hN]
      exact w64_mod _
    · rw [if_neg hk, seg_sum h k (fun e => hk e.symm)]
      rfl
  have e1 : sumK (A ++ (⟨k0.1, k0.2, N⟩ :: C)) k = sumK A k + ((if k0 = k then N else 0) + sumK C k) := by rw [sumK_app]; rfl
  have e2 : sumK (A ++ (seg ++ C)) k = sumK A k + (sumK seg k + sumK C k) := by rw [sumK_app, sumK_app]
  refine ⟨?_, fun h0 => ?_⟩
  · unfold findP
    rw [e1, e2]
    exact w64_cong (by omega)
  · unfold findP
    rw [sumK_app, e2]
    refine w64_cong ?_
    rw [h0] at key
    have : ((if k0 = k then (0 : Int) else 0)) = 0 := by split <;> rfl
    omega

/-- what the outer loop knows -/
structure COuter (l : List DeltaD) (es outs : List DE) (i : Nat) : Prop where
  le : i ≤ es.length
  norm : Norm (outs.map DE.d)
  lt : ∀ x ∈ outs, ∀ y ∈ es.drop i, cmpK x.d.key y.d.key < 0
  find : ∀ k, findP (outs.map DE.d ++ (es.drop i).map DE.d) k = findP l k
  few : outs.length ≤ i

theorem COuter.step {l : List DeltaD} {es outs : List DE} {i : Nat} (h : COuter l es outs i) {X : DE} (hX : X ∈ es.drop i) {j : Nat} (hij : i + j ≤ es.length) (hj : 1 ≤ j) (hk : ∀ y ∈ (es.drop i).take j, y.d.key = X.d.key) {N : Int} (hN : N = findP (((es.drop i).take j).map DE.d) X.d.key)
    (hgt : ∀ y ∈ es.drop (i + j), cmpK X.d.key y.d.key < 0) : (N = 0 → COuter l es outs (i + j)) ∧ (N ≠ 0 → ∀ (p : Option Addr) (c : Nat), COuter l es (outs ++ [⟨⟨X.d.time, X.d.row, N⟩, p, c⟩]) (i + j)) := by
  have hdr : es.drop i = (es.drop i).take j ++ es.drop (i + j) := by rw [← List.drop_drop, List.take_append_drop]
  have hkm : ∀ x ∈ ((es.drop i).take j).map DE.d, x.key = X.d.key := fun x hx => by
    obtain ⟨y, hy, rfl⟩ := List.mem_map.1 hx
    exact hk y hy
  have hsub : ∀ y ∈ es.drop (i + j), y ∈ es.drop i := fun y hy => by rw [hdr]; exact List.mem_append_right _ hy
  have hf : ∀ k, findP (outs.map DE.d ++ (((es.drop i).take j).map DE.d ++ (es.drop (i + j)).map DE.d)) k = findP l k := fun k => by
    rw [← List.map_append, ← hdr]; exact h.find k
  refine ⟨fun h0 => ⟨hij, h.norm, fun x hx y hy => h.lt x hx y (hsub y hy), fun k => ?_, by have := h.few; omega⟩, fun h0 p c => ⟨hij, ?_, fun x hx y hy => ?_, fun k => ?_, by rw [List.length_append]; have := h.few; simp; omega⟩⟩
  · rw [← hf k]
    exact (find_group (A := outs.map DE.d) (C := (es.drop (i + j)).map DE.d) hkm hN k).2 h0
  · rw [List.map_append]
    refine Norm.snoc h.norm (fun y hy => ?_) h0 (by rw [hN]; exact w64_in _)
    obtain ⟨z, hz, rfl⟩ := List.mem_map.1 hy
    exact h.lt z hz X hX
  · rcases List.mem_append.1 hx with hx | hx
    · exact h.lt x hx y (hsub y hy)
    · rw [List.mem_singleton.1 hx]; exact hgt y hy
  · rw [← hf k, List.map_append, List.append_assoc]
    exact (find_group (A := outs.map DE.d) (C := (es.drop (i + j)).map DE.d) hkm hN k).1

end Go.Proofs.YtjlfpkgjcffilaaGreatDoor
end

/-
  Sub, Diff, Same, walked.
-/
section
set_option linter.unusedVariables false
set_option linter.unusedSimpArgs false
namespace Go.Proofs.YtjlfpkgjcffilaaGreatDoor
open Go.Vc


/-! ### Sub -/
def negD (x : DeltaD) : DeltaD := ⟨x.time, x.row, w64 (0 - x.n)⟩
def subP (a b : List DeltaD) : List DeltaD := consP (a ++ b.map negD)

/-! ### Same -/
theorem delta_iff {x y : DeltaD} : x = y ↔ (x.time = y.time ∧ (x.row = y.row ∧ x.n = y.n)) := by cases x; cases y; simp
instance : DecidableEq DeltaD := fun _ _ => decidable_of_iff _ delta_iff.symm
end Go.Proofs.YtjlfpkgjcffilaaGreatDoor
end

/-
  Concat, Add, Consolidated, walked.
-/
section
set_option linter.unusedVariables false
set_option linter.unusedSimpArgs false
namespace Go.Vc
section
variable {W w : World} {S : List Own} {Φ : PW}

/-- append a slice of plain data, perhaps empty -/
theorem Ctx.appAny [Stable Φ] {P : Program} {α : Type} [Gv α] {q : Option Addr} {l : List α} {c2 : Nat} {p : Option Addr} {n cap : Nat} {cs : List Value} {t : TypeId} {bytes : Nat} (c : Ctx W w (.buf p n cap cs t (Gv.ty α).size :: S) Φ)
    {ts ty : TypeId} {kb : Array Bool} (hb : appB P ts t (Gv.ty α).size bytes = true) (h1 : ∀ M w cs (x : α), Gv.rep M w cs x → (cs.all fun u => oneC u) = true) (hsl : ∀ M w, Φ M w → Sl M w q l) (hlen : n + l.length < 100000000) (hbytes : bytes ≤ 1000) :
    ∃ p' cap' w' news, Sem.run P (builtin Builtin.append #[ts, ts] ty kb #[.slice p n cap, .slice q l.length c2]) w = .ok (.value (.slice p' (n + l.length) cap')) w' ∧
      Ctx W w' (.buf p' (n + l.length) cap' (cs ++ news) t (Gv.ty α).size :: S) (fun M w => Φ M w ∧ Elems M w news l) := by
  rcases Nat.eq_zero_or_pos l.length with h0 | h0
  · obtain ⟨i, z, e1, e2, e3, e4, e5, e6⟩ := appB_out hb
    have hl : l = [] := List.eq_nil_of_length_eq_zero h0
    subst hl
    refine ⟨p, cap, w, [], run_app (c.append0 0 rfl e1 e2 q c2), ?_⟩
    rw [List.append_nil]
    exact c.add Elems.nil
  · obtain ⟨p', cap', w', news, h2, _, c3⟩ := c.appSl (ty := ty) (kb := kb) (c2 := c2) hb h1 hsl h0 hlen hbytes
    exact ⟨p', cap', w', news, h2, c3⟩

end
end Go.Vc

namespace Go.Proofs.YtjlfpkgjcffilaaGreatDoor
open Go.Vc


end Go.Proofs.YtjlfpkgjcffilaaGreatDoor
end

/-
  A sink: New, copies of lines, List, taking a batch: walked.
-/
section
set_option linter.unusedVariables false
set_option linter.unusedSimpArgs false
namespace Go.Proofs.YtjlfpkgjcffilaaGreatDoor
open Go.Vc


def newOk (kind : Int) (key : List Int) : Bool := !decide (kind < 0) && (!decide (3 ≤ kind) && (!decide ((0 : Int) < key.length) || (decide (kind = 1) && !decide (minZ key < 0))))
abbrev newK (kind : Int) (key : List Int) : SkD := ⟨kind, key, [], [], 0, []⟩

theorem skq_of {q : KP} {st : SkD} {W w : World} {S : List Own} {Φ : PW} (c : Ctx W w (SkO q st ++ S) Φ) (hk : st.key.length ≤ q.kc ∧ q.kc ≤ maxLen) (ha : st.aside.length ≤ q.ac ∧ q.ac ≤ maxLen) : SkQ q st where
  lpt := fun h => by
    obtain ⟨g, hg, _⟩ := c.bufCell 2 rfl (by rw [(c.bufLen 2 rfl).1]; omega)
    exact ⟨g, hg⟩
  bpt := fun h => by
    obtain ⟨g, hg, _⟩ := c.bufCell 1 rfl (by rw [(c.bufLen 1 rfl).1]; omega)
    exact ⟨g, hg⟩
  lcap := (c.bufLen 2 rfl).2
  bcap := (c.bufLen 1 rfl).2
  kcap := hk
  acap := ha
  len := (c.bufLen 2 rfl).1
section
variable {Φ : PW} {q : KP} {st : SkD} {W w : World} {R S G : List Own} {p : Option Addr} {cap : Nat} {l : List LineD} {cs : List Value}

set_option maxHeartbeats 1000000 in
theorem CloneK_new [Stable Φ] (src : Src S Φ p l cs) (hlen : l.length ≤ 1000000) (hrow : ∀ x ∈ l, x.row.length ≤ 1000000) (c : Ctx W w S Φ) :
    Calls Tryz.prog F.sink_clone #[.slice p l.length cap] w fun e w' => ∃ p' c' cs', e = .returned (.slice p' l.length c') ∧ Ctx W w' (bufL p' l.length c' cs' :: S) (fun M w => Φ M w ∧ Elems M w cs' l) := by
  refine (Bsink_clone_run p l.length cap (J := fun v w' => ∃ p' c' cs', v = .slice p' l.length c' ∧ Ctx W w' (bufL p' l.length c' cs' :: S) (fun M w => Φ M w ∧ Elems M w cs' l)) c ?_).mono fun e w' ⟨v, he, p', c', cs', hv, rest⟩ => ⟨p', c', cs', by rw [he, hv], rest⟩
  clear c
  refine fun w G c => (CloneL_new (S := S ++ G) src.app hlen c).mono fun e w' ⟨p1, c1, cs1, he, cx⟩ => ⟨p1, l.length, c1, he, bufL p1 l.length c1 cs1 :: S, (fun M w => Φ M w ∧ Elems M w cs1 l), inferInstance, cx, ?_⟩
  clear c
  have hel := cx.phi.2
  have hpt : 0 < l.length → ∃ g, p1 = some ⟨g, 0, none⟩ := fun h0 => l_ptr cx (by rw [elems_len7 hel]; omega)
  clear cx hel
  refine exI_mk (fun iI R' Φ' m => ∃ i cs2, iI = (i : Nat) ∧ i ≤ l.length ∧ R' = bufL p1 l.length c1 cs2 :: S ∧ Φ' = (fun M w => Φ M w ∧ Elems M w cs2 l) ∧ m = l.length - i) ⟨⟨_, _, _, instStableAnd Φ (fun M w => Elems M w cs1 l), fun w G cx => cx, 0, cs1, rfl, Nat.zero_le _, rfl, rfl, rfl⟩, ?_⟩
  rintro iI R1 Φ1 m _ ⟨i, cs2, rfl, hi, rfl, rfl, rfl⟩
  refine Br.intro (fun hlt => ?_) (fun hge => fun w G cx => ⟨p1, c1, cs2, rfl, cx.left⟩)
  have hlt : i < l.length := by have := of_decide_eq_true hlt; omega
  obtain ⟨g, rfl⟩ := hpt (by omega)
  have hst : Stable (fun M w => Φ M w ∧ Elems M w cs2 l) := instStableAnd Φ (fun M w => Elems M w cs2 l)
  refine ⟨by omega, ptrK_intro g 0 rfl fun w G cx => ?_⟩
  obtain ⟨p0, c0, hp, _, _, _, _⟩ := lrow cx.phi.2 hlt
  refine ⟨l[i].no, l[i].batch, l[i].time, p0, l[i].row.length, c0, l[i].n, l[i].cause, l[i].why, ?_, fun _ w G cx => ?_⟩
  · have := l_at (W := W) (w := w) (Φ := fun M w => Φ M w ∧ Elems M w cs2 l) (S := S ++ G) cx hp
    rw [show 0 + (i : Int).toNat * 7 = i * 7 by omega]
    exact this
  have hrd : ∀ M w, (Φ M w ∧ Elems M w cs2 l) → Sl M w p0 l[i].row := fun M w h => by
    have := h.2.2 i hlt
    rw [show (Gv.ty LineD).size = 7 from rfl, hp] at this
    exact line_row this
  have hh : Has (fun M w => Φ M w ∧ Elems M w cs2 l) (fun M w => Sl M w p0 l[i].row) := ⟨hrd⟩
  refine (CloneV_sl (r := l[i].row) (hrow _ (List.getElem_mem _))).to cx fun p3 c3 f1 f2 st3 => ?_
  clear cx
  refine ⟨by omega, ptrK_intro g 0 rfl fun w G cx => ⟨?_, fun w2 hw2 => ?_⟩⟩
  · have hl := elems_len7 cx.phi.1.2
    exact l_can (S := S ++ G) cx (by omega)
  · have cx2 : Ctx W w (bufL (some ⟨g, 0, none⟩) l.length c1 cs2 :: (S ++ G)) (fun M w => (Φ M w ∧ Sl M w p3 l[i].row) ∧ Elems M w cs2 l) := cx.weak fun M w h => ⟨⟨h.1.1, h.2⟩, h.1.2⟩
    have st5 : Stable (fun M w => Sl M w p3 l[i].row) := instStableSl p3 l[i].row
    have st4 : Stable (fun M w => Φ M w ∧ Sl M w p3 l[i].row) := @instStableAnd Φ (fun M w => Sl M w p3 l[i].row) _ st5
    obtain ⟨cs3, cx3⟩ := l_row (w' := w2) (Φ := fun M w => Φ M w ∧ Sl M w p3 l[i].row) cx2 hlt f1 f2 (fun M w h => h.2) (by rw [hw2]; congr 2; omega)
    exact ⟨bufL (some ⟨g, 0, none⟩) l.length c1 cs3 :: S, _, instStableAnd Φ (fun M w => Elems M w cs3 l), cx3.weak fun M w h => ⟨h.1.1, h.2⟩, by unfold I64; omega, _, _, l.length - (i + 1), instStableAnd Φ (fun M w => Elems M w cs3 l), fun w G cx => cx, ⟨i + 1, cs3, rfl, hlt, rfl, rfl, rfl⟩, by omega⟩

theorem CloneK_sl [Stable Φ] [hΦ : Has Φ (fun M w => Sl M w p l)] (hlen : l.length ≤ 1000000) (hrow : ∀ x ∈ l, x.row.length ≤ 1000000) : GivesSl Φ Tryz.prog F.sink_clone #[.slice p l.length cap] l id :=
  .there (fun M w h => (hΦ.go M w h).there) fun hth => ⟨fun W w S c => by
    obtain ⟨cs, c1⟩ := srcOf c (hΦ.go _ _ c.phi)
    refine (CloneK_new (S := S) (Φ := fun M w => Φ M w ∧ SrcF p l cs M w) (src_fact (Φ := fun M w => Φ M w ∧ SrcF p l cs M w) hth (fun M w h => h.2)).app hlen hrow c1).mono fun e w' ⟨p', c', cs', he, cx⟩ => ?_
    obtain ⟨c2, hs, _, h2, h3⟩ := Ctx.freeze (α := LineD) cx cx.phi.2
    exact ⟨p', c', he, h2, h3, (c2.add hs).weak fun M w h => ⟨h.1.1.1, h.2⟩⟩⟩

theorem CloneZ_sl [Stable Φ] {l : List Int} [hΦ : Has Φ (fun M w => Sl M w p l)] (hlen : l.length ≤ 10000000) : GivesSl Φ Tryz.prog F.slices_Clone_int_int #[.slice p l.length cap] l id :=
  ⟨fun W w S c => (CloneZ_in (Φ := Φ) (cap := cap) hΦ.go (by omega)).use c fun p1 cap1 ds w cx => by
    obtain ⟨c2, hs, _, h2, h3⟩ := Ctx.freeze (α := Int) cx cx.phi.2
    exact ⟨p1, cap1, rfl, h2, h3, (c2.add hs).weak fun M w h => ⟨h.1.1, h.2⟩⟩⟩

/-! ### New -/
theorem new_i (kind : Int) (key : List Int) : SkI (newK kind key) := ⟨List.Pairwise.nil, by simp, by simp, by simp⟩

theorem New_to [Stable Φ] {kind : Int} {key : List Int} [hΦ : Has Φ (fun M w => Sl M w p key)] (hlen : key.length ≤ 10000000) (c : Ctx W w (R ++ G) Φ) {K : Option Addr → List Own → PW → Prop}
    (h0 : newOk kind key = false → K none R Φ)
    (h1 : ∀ q : KP, newOk kind key = true → SkQ q (newK kind key) → Stable (fun M w => Φ M w ∧ SkF q (newK kind key) M w) → K (some ⟨q.sb, 0, none⟩) (SkO q (newK kind key) ++ R) (fun M w => Φ M w ∧ SkF q (newK kind key) M w)) :
    Calls Tryz.prog F.sink_New #[.int .i64 kind, .slice p key.length cap] w fun e w' => ∃ p, e = .returned (.pointer p) ∧ ∃ R' Φ', Stable Φ' ∧ Ctx W w' (R' ++ G) Φ' ∧ K p R' Φ' := by
  refine (Bsink_New_run kind p key.length cap (R := R ++ G) (J := fun v w' => ∃ p, v = .pointer p ∧ ∃ R' Φ', Stable Φ' ∧ Ctx W w' (R' ++ G) Φ' ∧ K p R' Φ') c ?_).mono fun e w' ⟨v, he, p, hv, rest⟩ => ⟨p, by rw [he, hv], rest⟩
  clear c
  have bad : newOk kind key = false → ∀ {w : World} {G2 : List Own}, Ctx W w ((R ++ G) ++ G2) Φ → ∃ p, Value.pointer none = .pointer p ∧ ∃ R' Φ', Stable Φ' ∧ Ctx W w (R' ++ G) Φ' ∧ K p R' Φ' := fun h {w G2} cx => ⟨none, rfl, R, Φ, inferInstance, cx.left, h0 h⟩
  have good : newOk kind key = true → ∀ {w : World} {G2 : List Own}, Ctx W w ((R ++ G) ++ G2) Φ → Calls Tryz.prog F.slices_Clone_int_int #[.slice p key.length cap] w fun e17 w18 => ∃ (p19 : Option Addr), ∃ (k20 : Nat), ∃ (k21 : Nat), e17 = .returned (.slice p19 k20 k21) ∧ ∃ (R22 : List Own), ∃ (Φ23 : PW), Stable Φ23 ∧ Ctx W w18 (R22 ++ G2) Φ23 ∧ ∀ (k24 : Nat) (w25 : World) (R26 : List Own), Ctx W w25 (Own.blk k24 [.int .i64 kind, .slice p19 k20 k21, .slice none 0 0, .slice none 0 0, .int .i64 0, .slice none 0 0] 69 :: R22 ++ R26) Φ23 → ∃ p, Value.pointer (some (Addr.mk k24 0 none)) = .pointer p ∧ ∃ R' Φ', Stable Φ' ∧ Ctx W w25 (R' ++ G) Φ' ∧ K p R' Φ' := fun h {w G2} cx => by
    refine (CloneZ_sl (l := key) hlen).to cx fun p1 c1 g1 g2 st1 => ?_
    intro k w3 G3 cx
    have cx := Ctx.left (S := .blk k _ 69 :: (R ++ G)) (F := G3) cx
    have c2 := (cx.nobuf 46 7).nobuf 3 1
    obtain ⟨q, hqe⟩ : ∃ q : KP, q = ⟨k, p1, c1, none, 0, none, 0, [], none, 0⟩ := ⟨_, rfl⟩
    have c3 : Ctx W w3 ((SkO q (newK kind key) ++ R) ++ G) (fun M w => Φ M w ∧ SkF q (newK kind key) M w) := by
      rw [hqe]
      refine Ctx.weak (Φ := fun M w => Φ M w ∧ Sl M w p1 key) (c2.perm ?_) fun M w h => ⟨h.1, Elems.nil, h.2, fun i hi => absurd hi (by simp)⟩
      exact (List.Perm.trans (List.perm_middle (l₁ := [_, _]) (a := _)) (List.Perm.refl _))
    have hq : SkQ q (newK kind key) := skq_of (S := R ++ G) (c3.re (by simp)) (by rw [hqe]; exact ⟨g1, g2⟩) (by rw [hqe]; exact ⟨Nat.le_refl _, Nat.zero_le _⟩)
    have := h1 q h hq inferInstance
    refine ⟨some ⟨k, 0, none⟩, rfl, SkO q (newK kind key) ++ R, _, inferInstance, c3, ?_⟩
    rw [show k = q.sb by rw [hqe]]
    exact this
  unfold newOk at bad good
  refine Br.intro (fun h => fun w G2 cx => bad (by rw [h]; rfl) cx) (fun a1 => ?_)
  rw [a1] at bad good
  refine Br.intro (fun h => fun w G2 cx => bad (by rw [h]; rfl) cx) (fun a2 => ?_)
  rw [a2] at bad good
  refine Br.intro (fun h3 => ?_) (fun h3 => fun w G2 cx => good (by rw [h3]; rfl) cx)
  rw [h3] at bad good
  refine Br.intro (fun h => fun w G2 cx => bad (by rw [decide_eq_false (of_decide_eq_true h)]; rfl) cx) (fun a4 => fun w G2 cx => ?_)
  have h3 := of_decide_eq_true h3
  rw [decide_eq_true (Decidable.not_not.1 (of_decide_eq_false a4))] at bad good
  refine (Min_in (l := key) (by omega) hlen).toI cx ?_
  clear cx
  exact Br.intro (fun h => fun w G2 cx => bad (by rw [h]; rfl) cx) (fun a5 => fun w G2 cx => good (by rw [a5]; rfl) cx)

/-! ### List, take -/
theorem src_sk (hq : SkQ q st) (hF : ∀ M w, Φ M w → Elems M w q.cs st.lines) : Src (SkO q st) Φ q.lp st.lines q.cs where
  ptr := fun h => by obtain ⟨g, hg⟩ := hq.lpt h; exact ⟨g, 0, hg⟩
  rd := fun {W w G b o} e c j v hj => by
    have hjl : j < q.cs.length := (List.getElem?_eq_some_iff.1 hj).1
    have := hq.len
    obtain ⟨g, hg⟩ := hq.lpt (by omega)
    rw [hg] at e
    cases e
    rw [Nat.zero_add]
    exact c.bufGet 2 rfl hg hj
  el := fun M w h => hF M w h
end
end Go.Proofs.YtjlfpkgjcffilaaGreatDoor
end

/-
  The conditions of the walks of some functions, one formula each; 'B<f>_run' says that they suffice. The formulas are printed by a program; the kernel compares them with the functions' code.
-/
section
namespace Go.Proofs.YtjlfpkgjcffilaaGreatDoor
set_option linter.unusedVariables false
set_option linter.unusedSimpArgs false
set_option maxRecDepth 100000
open Go.Vc

/-- erratalaw43.SinkBack -/
-- loop at region 14: 11 i; blocks 
def Berratalaw43_SinkBack (s : ByteArray) (lP : Option Addr) (lN lC : Nat) (W : World) (R : List Own) (Φ : PW) (J : Value → World → Prop) : Prop :=
  ∀ (w0 : World) (R1 : List Own), Ctx W w0 (R ++ R1) Φ → Calls Tryz.prog F.erratalaw43_small #[] w0 fun (e2 : Ending) (w3 : World) => ∃ (c4 : Bool), e2 = Ending.returned (Value.bool c4) ∧ ∃
  (R5 : List Own), ∃ (Φ6 : PW), Stable Φ6 ∧ Ctx W w3 (R5 ++ R1) Φ6 ∧ Br (decide (600 < (↑s.size : Int))) (∀ (w7 : World) (R8 : List Own), Ctx W w7 (R5 ++ R8) Φ6 → J (Value.bool c4) w7) (∀ (w9
  : World) (R10 : List Own), Ctx W w9 (R5 ++ R10) Φ6 → Calls Tryz.prog F.erratalaw43_few #[Value.slice lP lN lC, Value.int IntKind.i64 20] w9 fun (e11 : Ending) (w12 : World) => ∃ (c13 :
  Bool), e11 = Ending.returned (Value.bool c13) ∧ ∃ (R14 : List Own), ∃ (Φ15 : PW), Stable Φ15 ∧ Ctx W w12 (R14 ++ R10) Φ15 ∧ Br (!c13) (∀ (w16 : World) (R17 : List Own), Ctx W w16 (R14 ++
  R17) Φ15 → J (Value.bool c4) w16) (∀ (w18 : World) (R19 : List Own), Ctx W w18 (R14 ++ R19) Φ15 → Calls Tryz.prog F.sink_Read #[Value.string s] w18 fun (e20 : Ending) (w21 : World) => ∃
  (p22 : Option Addr), ∃ (c23 : Bool), e20 = Ending.returned (Value.tuple #[Value.pointer p22, Value.bool c23]) ∧ ∃ (R24 : List Own), ∃ (Φ25 : PW), Stable Φ25 ∧ Ctx W w21 (R24 ++ R19) Φ25 ∧ ∀
  (w26 : World) (R27 : List Own), Ctx W w26 (R24 ++ R27) Φ25 → Calls Tryz.prog F.errataref43_Read #[Value.string s] w26 fun (e28 : Ending) (w29 : World) => ∃ (p30 : Option Addr), ∃ (c31 :
  Bool), e28 = Ending.returned (Value.tuple #[Value.pointer p30, Value.bool c31]) ∧ ∃ (R32 : List Own), ∃ (Φ33 : PW), Stable Φ33 ∧ Ctx W w29 (R32 ++ R27) Φ33 ∧ ∀ (w34 : World) (R35 : List
  Own), Ctx W w34 (R32 ++ R35) Φ33 → Br (c23 != c31 || c23 != !p22.isNone) (∀ (w36 : World) (R37 : List Own), Ctx W w36 (R32 ++ R37) Φ33 → J (Value.bool false) w36) (Br p22.isNone (∀ (w38 :
  World) (R39 : List Own), Ctx W w38 (R32 ++ R39) Φ33 → J (Value.bool c4) w38) (∀ (w40 : World) (R41 : List Own), Ctx W w40 (R32 ++ R41) Φ33 → Calls Tryz.prog F.sink_Sink_Copy #[Value.pointer
  p22] w40 fun (e42 : Ending) (w43 : World) => ∃ (p44 : Option Addr), e42 = Ending.returned (Value.pointer p44) ∧ ∃ (R45 : List Own), ∃ (Φ46 : PW), Stable Φ46 ∧ Ctx W w43 (R45 ++ R41) Φ46 ∧
  Br p44.isNone (∀ (w47 : World) (R48 : List Own), Ctx W w47 (R45 ++ R48) Φ46 → J (Value.bool false) w47) (∀ (w49 : World) (R50 : List Own), Ctx W w49 (R45 ++ R50) Φ46 → Calls Tryz.prog
  F.sink_Sink_Bytes #[Value.pointer p22] w49 fun (e51 : Ending) (w52 : World) => ∃ (s53 : ByteArray), e51 = Ending.returned (Value.string s53) ∧ ∃ (R54 : List Own), ∃ (Φ55 : PW), Stable Φ55 ∧
  Ctx W w52 (R54 ++ R50) Φ55 ∧ Br (decide (s53 ≠ s)) (∀ (w56 : World) (R57 : List Own), Ctx W w56 (R54 ++ R57) Φ55 → J (Value.bool false) w56) (exI fun (I58 : Int → List Own → PW → Nat →
  Prop) => (∃ (R59 : List Own), ∃ (Φ60 : PW), ∃ (k61 : Nat), Stable Φ60 ∧ (∀ (w62 : World) (R63 : List Own), Ctx W w62 (R54 ++ R63) Φ55 → Ctx W w62 (R59 ++ R63) Φ60) ∧ I58 0 R59 Φ60 k61) ∧ ∀
  (n64 : Int) (R65 : List Own) (I66 : List Nat → World → Prop) (k67 : Nat), Stable I66 → I58 n64 R65 I66 k67 → Br (decide (n64 < (↑lN : Int))) ((0 ≤ n64 ∧ n64 < (↑lN : Int)) ∧ ptrK none lP
  fun (k68 k69 : Nat) => ∀ (w70 : World) (R71 : List Own), Ctx W w70 (R65 ++ R71) I66 → ∃ (n72 : Int), w70.cell? (Addr.mk k68 (k69 + n64.toNat * 3) none) = some (Value.int IntKind.i64 n72) ∧
  ∃ (n73 : Int), (∀ (w74 : World), Sem.run Tryz.prog (binOp BinOp.and 3 (Value.int IntKind.i64 n72) (Value.int IntKind.i64 7)) w74 = Result.ok (Value.int IntKind.i64 n73) w74) ∧ Br (decide
  (n73 < 6)) ((0 ≤ n64 ∧ n64 < (↑lN : Int)) ∧ ptrK none lP fun (k75 k76 : Nat) => ∀ (w77 : World) (R78 : List Own), Ctx W w77 (R65 ++ R78) I66 → ∃ (n79 : Int), ∃ (n80 : Int), ∃ (p81 : Option
  Addr), ∃ (k82 : Nat), ∃ (k83 : Nat), RowAt w77 k75 (k76 + n64.toNat * 3) [Value.int IntKind.i64 n79, Value.int IntKind.i64 n80, Value.slice p81 k82 k83] ∧ ∀ (w84 : World) (R85 : List Own),
  Ctx W w84 (R65 ++ R85) I66 → Calls Tryz.prog F.erratalaw43_do #[Value.pointer p22, Value.agg #[Value.int IntKind.i64 n79, Value.int IntKind.i64 n80, Value.slice p81 k82 k83]] w84 fun (e86 :
  Ending) (w87 : World) => ∃ (p88 : Option Addr), ∃ (n89 : Int), e86 = Ending.returned (Value.tuple #[Value.pointer p88, Value.int IntKind.i64 n89]) ∧ ∃ (R90 : List Own), ∃ (Φ91 : PW), Stable
  Φ91 ∧ Ctx W w87 (R90 ++ R85) Φ91 ∧ I64 (n64 + 1) ∧ ∃ (R92 : List Own), ∃ (Φ93 : PW), ∃ (k94 : Nat), Stable Φ93 ∧ (∀ (w95 : World) (R96 : List Own), Ctx W w95 (R90 ++ R96) Φ91 → Ctx W w95
  (R92 ++ R96) Φ93) ∧ I58 (n64 + 1) R92 Φ93 k94 ∧ k94 < k67) (I64 (n64 + 1) ∧ ∃ (R97 : List Own), ∃ (Φ98 : PW), ∃ (k99 : Nat), Stable Φ98 ∧ (∀ (w100 : World) (R101 : List Own), Ctx W w100
  (R65 ++ R101) I66 → Ctx W w100 (R97 ++ R101) Φ98) ∧ I58 (n64 + 1) R97 Φ98 k99 ∧ k99 < k67)) (Br c4 (∀ (w102 : World) (R103 : List Own), Ctx W w102 (R65 ++ R103) I66 → Calls Tryz.prog
  F.sink_Sink_Bytes #[Value.pointer p44] w102 fun (e104 : Ending) (w105 : World) => ∃ (s106 : ByteArray), e104 = Ending.returned (Value.string s106) ∧ ∃ (R107 : List Own), ∃ (Φ108 : PW),
  Stable Φ108 ∧ Ctx W w105 (R107 ++ R103) Φ108 ∧ ∀ (w109 : World) (R110 : List Own), Ctx W w109 (R107 ++ R110) Φ108 → J (Value.bool (decide (s106 = s))) w109) (∀ (w111 : World) (R112 : List
  Own), Ctx W w111 (R65 ++ R112) I66 → J (Value.bool false) w111))))))))

theorem Berratalaw43_SinkBack_run (s : ByteArray) (lP : Option Addr) (lN lC : Nat) {W w : World} {R : List Own} {Φ : PW} [Stable Φ] {J : Value → World → Prop} (c : Ctx W w R Φ) (h : Berratalaw43_SinkBack s lP lN lC W R Φ J) : Calls Tryz.prog F.erratalaw43_SinkBack #[.string s, .slice lP lN lC] w fun e w' => ∃ v, e = .returned v ∧ J v w' :=
  vcFS_sound (H := { keep := some [0, 1, 4, 5, 6, 7, 9, 10, 11, 20, 40, 42, 53, 57, 66], split := [2, 11, 18], loops := [(14, [(11, .one (.int .i64))], [])] }) (by rw [show vcFS Tryz.prog W { keep := some [0, 1, 4, 5, 6, 7, 9, 10, 11, 20, 40, 42, 53, 57, 66], split := [2, 11, 18], loops := [(14, [(11, .one (.int .i64))], [])] } F.erratalaw43_SinkBack #[.string s, .slice lP lN lC] R Φ J = Berratalaw43_SinkBack s lP lN lC W R Φ J by kernel_rfl]; exact h) c

/-- errataref43.Read -/
-- loop at region 47: 22 i; blocks 
-- loop at region 38: 18 at, 20 l; blocks 
-- loop at region 35: 18 at, 19 i; blocks 
-- loop at region 18: 10 good, 13 l, 14 i; blocks 
-- loop at region 11: 8 all, 9 prepared, 10 good, 11 k; blocks 
-- known blocks: 15 y, 21 y
def Berrataref43_Read (x : ByteArray) (W : World) (R : List Own) (Φ : PW) (J : Value → World → Prop) : Prop :=
  ∀ (w0 : World) (R1 : List Own), Ctx W w0 (R ++ R1) Φ → Calls Tryz.prog F.errataref01_Open #[Value.string x] w0 fun (e2 : Ending) (w3 : World) => ∃ (p4 : Option Addr), e2 = Ending.returned
  (Value.pointer p4) ∧ ∃ (R5 : List Own), ∃ (Φ6 : PW), Stable Φ6 ∧ Ctx W w3 (R5 ++ R1) Φ6 ∧ ∀ (w7 : World) (R8 : List Own), Ctx W w7 (R5 ++ R8) Φ6 → Calls Tryz.prog F.errataref01_Reader_Int
  #[Value.pointer p4] w7 fun (e9 : Ending) (w10 : World) => ∃ (n11 : Int), e9 = Ending.returned (Value.int IntKind.i64 n11) ∧ ∃ (R12 : List Own), ∃ (Φ13 : PW), Stable Φ13 ∧ Ctx W w10 (R12 ++
  R8) Φ13 ∧ ∀ (w14 : World) (R15 : List Own), Ctx W w14 (R12 ++ R15) Φ13 → Calls Tryz.prog F.errataref01_Reader_Nums #[Value.pointer p4] w14 fun (e16 : Ending) (w17 : World) => ∃ (p18 :
  Option Addr), ∃ (k19 : Nat), ∃ (k20 : Nat), e16 = Ending.returned (Value.slice p18 k19 k20) ∧ ∃ (R21 : List Own), ∃ (Φ22 : PW), Stable Φ22 ∧ Ctx W w17 (R21 ++ R15) Φ22 ∧ ∀ (w23 : World)
  (R24 : List Own), Ctx W w23 (R21 ++ R24) Φ22 → Calls Tryz.prog F.errataref43_New #[Value.int IntKind.i64 n11, Value.slice p18 k19 k20] w23 fun (e25 : Ending) (w26 : World) => ∃ (p27 :
  Option Addr), e25 = Ending.returned (Value.pointer p27) ∧ ∃ (R28 : List Own), ∃ (Φ29 : PW), Stable Φ29 ∧ Ctx W w26 (R28 ++ R24) Φ29 ∧ Br p27.isNone (∀ (w30 : World) (R31 : List Own), Ctx W
  w30 (R28 ++ R31) Φ29 → J (Value.tuple #[Value.pointer none, Value.bool false]) w30) (∀ (w32 : World) (R33 : List Own), Ctx W w32 (R28 ++ R33) Φ29 → Calls Tryz.prog F.errataref01_Reader_Nums
  #[Value.pointer p4] w32 fun (e34 : Ending) (w35 : World) => ∃ (p36 : Option Addr), ∃ (k37 : Nat), ∃ (k38 : Nat), e34 = Ending.returned (Value.slice p36 k37 k38) ∧ ∃ (R39 : List Own), ∃ (Φ40
  : PW), Stable Φ40 ∧ Ctx W w35 (R39 ++ R33) Φ40 ∧ exI fun (I41 : Option Addr → Nat → Nat → Int → Bool → Int → List Own → PW → Nat → Prop) => (∃ (R42 : List Own), ∃ (Φ43 : PW), ∃ (k44 : Nat),
  Stable Φ43 ∧ (∀ (w45 : World) (R46 : List Own), Ctx W w45 (R39 ++ R46) Φ40 → Ctx W w45 (R42 ++ R46) Φ43) ∧ I41 none 0 0 0 true 0 R42 Φ43 k44) ∧ ∀ (p47 : Option Addr) (k48 k49 : Nat) (n50 :
  Int) (c51 : Bool) (n52 : Int) (R53 : List Own) (I54 : List Nat → World → Prop) (k55 : Nat), Stable I54 → I41 p47 k48 k49 n50 c51 n52 R53 I54 k55 → Br (decide (n52 < 2)) (Br (decide (n52 =
  1)) (∀ (w56 : World) (R57 : List Own), Ctx W w56 (R53 ++ R57) I54 → Calls Tryz.prog F.errataref01_Reader_Int #[Value.pointer p4] w56 fun (e58 : Ending) (w59 : World) => ∃ (n60 : Int), e58 =
  Ending.returned (Value.int IntKind.i64 n60) ∧ ∃ (R61 : List Own), ∃ (Φ62 : PW), Stable Φ62 ∧ Ctx W w59 (R61 ++ R57) Φ62 ∧ ∀ (w63 : World) (R64 : List Own), Ctx W w63 (R61 ++ R64) Φ62 →
  Calls Tryz.prog F.errataref01_Reader_Num #[Value.pointer p4] w63 fun (e65 : Ending) (w66 : World) => ∃ (n67 : Int), e65 = Ending.returned (Value.int IntKind.i64 n67) ∧ ∃ (R68 : List Own), ∃
  (Φ69 : PW), Stable Φ69 ∧ Ctx W w66 (R68 ++ R64) Φ69 ∧ exI fun (I70 : Bool → Option Addr → Nat → Nat → Int → List Own → PW → Nat → Prop) => (∃ (R71 : List Own), ∃ (Φ72 : PW), ∃ (k73 : Nat),
  Stable Φ72 ∧ (∀ (w74 : World) (R75 : List Own), Ctx W w74 (R68 ++ R75) Φ69 → Ctx W w74 (R71 ++ R75) Φ72) ∧ I70 c51 none 0 0 0 R71 Φ72 k73) ∧ ∀ (c76 : Bool) (p77 : Option Addr) (k78 k79 :
  Nat) (n80 : Int) (R81 : List Own) (I82 : List Nat → World → Prop) (k83 : Nat), Stable I82 → I70 c76 p77 k78 k79 n80 R81 I82 k83 → Br (decide (n80 < n67)) (∀ (w84 : World) (R85 : List Own),
  Ctx W w84 (R81 ++ R85) I82 → Calls Tryz.prog F.errataref01_Reader_Left #[Value.pointer p4] w84 fun (e86 : Ending) (w87 : World) => ∃ (n88 : Int), e86 = Ending.returned (Value.int
  IntKind.i64 n88) ∧ ∃ (R89 : List Own), ∃ (Φ90 : PW), Stable Φ90 ∧ Ctx W w87 (R89 ++ R85) Φ90 ∧ Br (decide (0 < n88)) (∀ (w91 : World) (R92 : List Own), Ctx W w91 (R89 ++ R92) Φ90 → Calls
  Tryz.prog F.errataref01_Reader_Int #[Value.pointer p4] w91 fun (e93 : Ending) (w94 : World) => ∃ (n95 : Int), e93 = Ending.returned (Value.int IntKind.i64 n95) ∧ ∃ (R96 : List Own), ∃ (Φ97
  : PW), Stable Φ97 ∧ Ctx W w94 (R96 ++ R92) Φ97 ∧ ∀ (b : Nat) (w98 : World) (R99 : List Own), Ctx W w98 (R96 ++ R99) Φ97 → Calls Tryz.prog F.errataref01_Reader_Int #[Value.pointer p4] w98
  fun (e100 : Ending) (w101 : World) => ∃ (n102 : Int), e100 = Ending.returned (Value.int IntKind.i64 n102) ∧ ∃ (R103 : List Own), ∃ (Φ104 : PW), Stable Φ104 ∧ Ctx W w101 (R103 ++ R99) Φ104 ∧
  ∀ (w105 : World) (R106 : List Own), Ctx W w105 (R103 ++ R106) Φ104 → Calls Tryz.prog F.errataref01_Reader_Text #[Value.pointer p4] w105 fun (e107 : Ending) (w108 : World) => ∃ (s109 :
  ByteArray), e107 = Ending.returned (Value.string s109) ∧ ∃ (R110 : List Own), ∃ (Φ111 : PW), Stable Φ111 ∧ Ctx W w108 (R110 ++ R106) Φ111 ∧ ∀ (w112 : World) (R113 : List Own), Ctx W w112
  (R110 ++ R113) Φ111 → Calls Tryz.prog F.errataref03_ReadRow #[Value.string s109] w112 fun (e114 : Ending) (w115 : World) => ∃ (p116 : Option Addr), ∃ (k117 : Nat), ∃ (k118 : Nat), ∃ (c119 :
  Bool), e114 = Ending.returned (Value.tuple #[Value.slice p116 k117 k118, Value.bool c119]) ∧ ∃ (R120 : List Own), ∃ (Φ121 : PW), Stable Φ121 ∧ Ctx W w115 (R120 ++ R113) Φ121 ∧ ∀ (w122 :
  World) (R123 : List Own), Ctx W w122 (R120 ++ R123) Φ121 → ∀ (w124 : World) (R125 : List Own), Ctx W w124 (R120 ++ R125) Φ121 → Calls Tryz.prog F.errataref01_Reader_Int #[Value.pointer p4]
  w124 fun (e126 : Ending) (w127 : World) => ∃ (n128 : Int), e126 = Ending.returned (Value.int IntKind.i64 n128) ∧ ∃ (R129 : List Own), ∃ (Φ130 : PW), Stable Φ130 ∧ Ctx W w127 (R129 ++ R125)
  Φ130 ∧ ∀ (w131 : World) (R132 : List Own), Ctx W w131 (R129 ++ R132) Φ130 → Calls Tryz.prog F.errataref01_Reader_Int #[Value.pointer p4] w131 fun (e133 : Ending) (w134 : World) => ∃ (n135 :
  Int), e133 = Ending.returned (Value.int IntKind.i64 n135) ∧ ∃ (R136 : List Own), ∃ (Φ137 : PW), Stable Φ137 ∧ Ctx W w134 (R136 ++ R132) Φ137 ∧ ∀ (w138 : World) (R139 : List Own), Ctx W w138
  (R136 ++ R139) Φ137 → Calls Tryz.prog F.errataref01_Reader_Int #[Value.pointer p4] w138 fun (e140 : Ending) (w141 : World) => ∃ (n142 : Int), e140 = Ending.returned (Value.int IntKind.i64
  n142) ∧ ∃ (R143 : List Own), ∃ (Φ144 : PW), Stable Φ144 ∧ Ctx W w141 (R143 ++ R139) Φ144 ∧ ∀ (k145 : Nat) (w146 : World) (R147 : List Own), Ctx W w146 (Own.blk k145 [Value.int IntKind.i64
  0, Value.int IntKind.i64 n95, Value.int IntKind.i64 n102, Value.slice p116 k117 k118, Value.int IntKind.i64 n128, Value.int IntKind.i64 n135, Value.int IntKind.i64 n142] 46 :: R143 ++ R147)
  Φ144 → ∃ (p148 : Option Addr), ∃ (k149 : Nat), ∃ (k150 : Nat), ∃ (w151 : World), Sem.run Tryz.prog (builtin Builtin.append #[33, 33] 33 #[false, false] #[Value.slice p77 k78 k79,
  Value.slice (some (Addr.mk k145 0 none)) 1 1]) w146 = Result.ok (Next.value (Value.slice p148 k149 k150)) w151 ∧ ∃ (R152 : List Own), ∃ (Φ153 : PW), Stable Φ153 ∧ Ctx W w151 (R152 ++ R147)
  Φ153 ∧ I64 (n80 + 1) ∧ ∃ (R154 : List Own), ∃ (Φ155 : PW), ∃ (k156 : Nat), Stable Φ155 ∧ (∀ (w157 : World) (R158 : List Own), Ctx W w157 (R152 ++ R158) Φ153 → Ctx W w157 (R154 ++ R158)
  Φ155) ∧ I70 (c76 && c119) p148 k149 k150 (n80 + 1) R154 Φ155 k156 ∧ k156 < k83) (∀ (w159 : World) (R160 : List Own), Ctx W w159 (R89 ++ R160) Φ90 → ∀ (k161 : Nat) (w162 : World) (R163 :
  List Own), Ctx W w162 (Own.blk k161 [Value.slice p77 k78 k79] 33 :: R89 ++ R163) Φ90 → ∃ (p164 : Option Addr), ∃ (k165 : Nat), ∃ (k166 : Nat), ∃ (w167 : World), Sem.run Tryz.prog (builtin
  Builtin.append #[72, 72] 72 #[false, false] #[Value.slice p47 k48 k49, Value.slice (some (Addr.mk k161 0 none)) 1 1]) w162 = Result.ok (Next.value (Value.slice p164 k165 k166)) w167 ∧ ∃
  (R168 : List Own), ∃ (Φ169 : PW), Stable Φ169 ∧ Ctx W w167 (R168 ++ R163) Φ169 ∧ I64 (n52 + 1) ∧ ∃ (R170 : List Own), ∃ (Φ171 : PW), ∃ (k172 : Nat), Stable Φ171 ∧ (∀ (w173 : World) (R174 :
  List Own), Ctx W w173 (R168 ++ R174) Φ169 → Ctx W w173 (R170 ++ R174) Φ171) ∧ I41 p164 k165 k166 n60 (c76 && decide ((↑k78 : Int) = n67)) (n52 + 1) R170 Φ171 k172 ∧ k172 < k55)) (∀ (w175 :
  World) (R176 : List Own), Ctx W w175 (R81 ++ R176) I82 → ∀ (k177 : Nat) (w178 : World) (R179 : List Own), Ctx W w178 (Own.blk k177 [Value.slice p77 k78 k79] 33 :: R81 ++ R179) I82 → ∃ (p180
  : Option Addr), ∃ (k181 : Nat), ∃ (k182 : Nat), ∃ (w183 : World), Sem.run Tryz.prog (builtin Builtin.append #[72, 72] 72 #[false, false] #[Value.slice p47 k48 k49, Value.slice (some
  (Addr.mk k177 0 none)) 1 1]) w178 = Result.ok (Next.value (Value.slice p180 k181 k182)) w183 ∧ ∃ (R184 : List Own), ∃ (Φ185 : PW), Stable Φ185 ∧ Ctx W w183 (R184 ++ R179) Φ185 ∧ I64 (n52 +
  1) ∧ ∃ (R186 : List Own), ∃ (Φ187 : PW), ∃ (k188 : Nat), Stable Φ187 ∧ (∀ (w189 : World) (R190 : List Own), Ctx W w189 (R184 ++ R190) Φ185 → Ctx W w189 (R186 ++ R190) Φ187) ∧ I41 p180 k181
  k182 n60 (c76 && decide ((↑k78 : Int) = n67)) (n52 + 1) R186 Φ187 k188 ∧ k188 < k55)) (∀ (w191 : World) (R192 : List Own), Ctx W w191 (R53 ++ R192) I54 → Calls Tryz.prog
  F.errataref01_Reader_Num #[Value.pointer p4] w191 fun (e193 : Ending) (w194 : World) => ∃ (n195 : Int), e193 = Ending.returned (Value.int IntKind.i64 n195) ∧ ∃ (R196 : List Own), ∃ (Φ197 :
  PW), Stable Φ197 ∧ Ctx W w194 (R196 ++ R192) Φ197 ∧ exI fun (I198 : Bool → Option Addr → Nat → Nat → Int → List Own → PW → Nat → Prop) => (∃ (R199 : List Own), ∃ (Φ200 : PW), ∃ (k201 :
  Nat), Stable Φ200 ∧ (∀ (w202 : World) (R203 : List Own), Ctx W w202 (R196 ++ R203) Φ197 → Ctx W w202 (R199 ++ R203) Φ200) ∧ I198 c51 none 0 0 0 R199 Φ200 k201) ∧ ∀ (c204 : Bool) (p205 :
  Option Addr) (k206 k207 : Nat) (n208 : Int) (R209 : List Own) (I210 : List Nat → World → Prop) (k211 : Nat), Stable I210 → I198 c204 p205 k206 k207 n208 R209 I210 k211 → Br (decide (n208 <
  n195)) (∀ (w212 : World) (R213 : List Own), Ctx W w212 (R209 ++ R213) I210 → Calls Tryz.prog F.errataref01_Reader_Left #[Value.pointer p4] w212 fun (e214 : Ending) (w215 : World) => ∃ (n216
  : Int), e214 = Ending.returned (Value.int IntKind.i64 n216) ∧ ∃ (R217 : List Own), ∃ (Φ218 : PW), Stable Φ218 ∧ Ctx W w215 (R217 ++ R213) Φ218 ∧ Br (decide (0 < n216)) (∀ (w219 : World)
  (R220 : List Own), Ctx W w219 (R217 ++ R220) Φ218 → Calls Tryz.prog F.errataref01_Reader_Int #[Value.pointer p4] w219 fun (e221 : Ending) (w222 : World) => ∃ (n223 : Int), e221 =
  Ending.returned (Value.int IntKind.i64 n223) ∧ ∃ (R224 : List Own), ∃ (Φ225 : PW), Stable Φ225 ∧ Ctx W w222 (R224 ++ R220) Φ225 ∧ ∀ (b : Nat) (w226 : World) (R227 : List Own), Ctx W w226
  (R224 ++ R227) Φ225 → Calls Tryz.prog F.errataref01_Reader_Int #[Value.pointer p4] w226 fun (e228 : Ending) (w229 : World) => ∃ (n230 : Int), e228 = Ending.returned (Value.int IntKind.i64
  n230) ∧ ∃ (R231 : List Own), ∃ (Φ232 : PW), Stable Φ232 ∧ Ctx W w229 (R231 ++ R227) Φ232 ∧ ∀ (w233 : World) (R234 : List Own), Ctx W w233 (R231 ++ R234) Φ232 → Calls Tryz.prog
  F.errataref01_Reader_Text #[Value.pointer p4] w233 fun (e235 : Ending) (w236 : World) => ∃ (s237 : ByteArray), e235 = Ending.returned (Value.string s237) ∧ ∃ (R238 : List Own), ∃ (Φ239 :
  PW), Stable Φ239 ∧ Ctx W w236 (R238 ++ R234) Φ239 ∧ ∀ (w240 : World) (R241 : List Own), Ctx W w240 (R238 ++ R241) Φ239 → Calls Tryz.prog F.errataref03_ReadRow #[Value.string s237] w240 fun
  (e242 : Ending) (w243 : World) => ∃ (p244 : Option Addr), ∃ (k245 : Nat), ∃ (k246 : Nat), ∃ (c247 : Bool), e242 = Ending.returned (Value.tuple #[Value.slice p244 k245 k246, Value.bool
  c247]) ∧ ∃ (R248 : List Own), ∃ (Φ249 : PW), Stable Φ249 ∧ Ctx W w243 (R248 ++ R241) Φ249 ∧ ∀ (w250 : World) (R251 : List Own), Ctx W w250 (R248 ++ R251) Φ249 → ∀ (w252 : World) (R253 :
  List Own), Ctx W w252 (R248 ++ R253) Φ249 → Calls Tryz.prog F.errataref01_Reader_Int #[Value.pointer p4] w252 fun (e254 : Ending) (w255 : World) => ∃ (n256 : Int), e254 = Ending.returned
  (Value.int IntKind.i64 n256) ∧ ∃ (R257 : List Own), ∃ (Φ258 : PW), Stable Φ258 ∧ Ctx W w255 (R257 ++ R253) Φ258 ∧ ∀ (w259 : World) (R260 : List Own), Ctx W w259 (R257 ++ R260) Φ258 → Calls
  Tryz.prog F.errataref01_Reader_Int #[Value.pointer p4] w259 fun (e261 : Ending) (w262 : World) => ∃ (n263 : Int), e261 = Ending.returned (Value.int IntKind.i64 n263) ∧ ∃ (R264 : List Own),
  ∃ (Φ265 : PW), Stable Φ265 ∧ Ctx W w262 (R264 ++ R260) Φ265 ∧ ∀ (w266 : World) (R267 : List Own), Ctx W w266 (R264 ++ R267) Φ265 → Calls Tryz.prog F.errataref01_Reader_Int #[Value.pointer
  p4] w266 fun (e268 : Ending) (w269 : World) => ∃ (n270 : Int), e268 = Ending.returned (Value.int IntKind.i64 n270) ∧ ∃ (R271 : List Own), ∃ (Φ272 : PW), Stable Φ272 ∧ Ctx W w269 (R271 ++
  R267) Φ272 ∧ ∀ (k273 : Nat) (w274 : World) (R275 : List Own), Ctx W w274 (Own.blk k273 [Value.int IntKind.i64 0, Value.int IntKind.i64 n223, Value.int IntKind.i64 n230, Value.slice p244
  k245 k246, Value.int IntKind.i64 n256, Value.int IntKind.i64 n263, Value.int IntKind.i64 n270] 46 :: R271 ++ R275) Φ272 → ∃ (p276 : Option Addr), ∃ (k277 : Nat), ∃ (k278 : Nat), ∃ (w279 :
  World), Sem.run Tryz.prog (builtin Builtin.append #[33, 33] 33 #[false, false] #[Value.slice p205 k206 k207, Value.slice (some (Addr.mk k273 0 none)) 1 1]) w274 = Result.ok (Next.value
  (Value.slice p276 k277 k278)) w279 ∧ ∃ (R280 : List Own), ∃ (Φ281 : PW), Stable Φ281 ∧ Ctx W w279 (R280 ++ R275) Φ281 ∧ I64 (n208 + 1) ∧ ∃ (R282 : List Own), ∃ (Φ283 : PW), ∃ (k284 : Nat),
  Stable Φ283 ∧ (∀ (w285 : World) (R286 : List Own), Ctx W w285 (R280 ++ R286) Φ281 → Ctx W w285 (R282 ++ R286) Φ283) ∧ I198 (c204 && c247) p276 k277 k278 (n208 + 1) R282 Φ283 k284 ∧ k284 <
  k211) (∀ (w287 : World) (R288 : List Own), Ctx W w287 (R217 ++ R288) Φ218 → ∀ (k289 : Nat) (w290 : World) (R291 : List Own), Ctx W w290 (Own.blk k289 [Value.slice p205 k206 k207] 33 :: R217
  ++ R291) Φ218 → ∃ (p292 : Option Addr), ∃ (k293 : Nat), ∃ (k294 : Nat), ∃ (w295 : World), Sem.run Tryz.prog (builtin Builtin.append #[72, 72] 72 #[false, false] #[Value.slice p47 k48 k49,
  Value.slice (some (Addr.mk k289 0 none)) 1 1]) w290 = Result.ok (Next.value (Value.slice p292 k293 k294)) w295 ∧ ∃ (R296 : List Own), ∃ (Φ297 : PW), Stable Φ297 ∧ Ctx W w295 (R296 ++ R291)
  Φ297 ∧ I64 (n52 + 1) ∧ ∃ (R298 : List Own), ∃ (Φ299 : PW), ∃ (k300 : Nat), Stable Φ299 ∧ (∀ (w301 : World) (R302 : List Own), Ctx W w301 (R296 ++ R302) Φ297 → Ctx W w301 (R298 ++ R302)
  Φ299) ∧ I41 p292 k293 k294 n50 (c204 && decide ((↑k206 : Int) = n195)) (n52 + 1) R298 Φ299 k300 ∧ k300 < k55)) (∀ (w303 : World) (R304 : List Own), Ctx W w303 (R209 ++ R304) I210 → ∀ (k305
  : Nat) (w306 : World) (R307 : List Own), Ctx W w306 (Own.blk k305 [Value.slice p205 k206 k207] 33 :: R209 ++ R307) I210 → ∃ (p308 : Option Addr), ∃ (k309 : Nat), ∃ (k310 : Nat), ∃ (w311 :
  World), Sem.run Tryz.prog (builtin Builtin.append #[72, 72] 72 #[false, false] #[Value.slice p47 k48 k49, Value.slice (some (Addr.mk k305 0 none)) 1 1]) w306 = Result.ok (Next.value
  (Value.slice p308 k309 k310)) w311 ∧ ∃ (R312 : List Own), ∃ (Φ313 : PW), Stable Φ313 ∧ Ctx W w311 (R312 ++ R307) Φ313 ∧ I64 (n52 + 1) ∧ ∃ (R314 : List Own), ∃ (Φ315 : PW), ∃ (k316 : Nat),
  Stable Φ315 ∧ (∀ (w317 : World) (R318 : List Own), Ctx W w317 (R312 ++ R318) Φ313 → Ctx W w317 (R314 ++ R318) Φ315) ∧ I41 p308 k309 k310 n50 (c204 && decide ((↑k206 : Int) = n195)) (n52 +
  1) R314 Φ315 k316 ∧ k316 < k55))) (∀ (w319 : World) (R320 : List Own), Ctx W w319 (R53 ++ R320) I54 → Calls Tryz.prog F.errataref01_Reader_Done #[Value.pointer p4] w319 fun (e321 : Ending)
  (w322 : World) => ∃ (c323 : Bool), e321 = Ending.returned (Value.bool c323) ∧ ∃ (R324 : List Own), ∃ (Φ325 : PW), Stable Φ325 ∧ Ctx W w322 (R324 ++ R320) Φ325 ∧ Br (!c323) (∀ (w326 : World)
  (R327 : List Own), Ctx W w326 (R324 ++ R327) Φ325 → J (Value.tuple #[Value.pointer none, Value.bool false]) w326) (Br (!c51) (∀ (w328 : World) (R329 : List Own), Ctx W w328 (R324 ++ R329)
  Φ325 → J (Value.tuple #[Value.pointer none, Value.bool false]) w328) (exI fun (I330 : Int → Int → List Own → PW → Nat → Prop) => (∃ (R331 : List Own), ∃ (Φ332 : PW), ∃ (k333 : Nat), Stable
  Φ332 ∧ (∀ (w334 : World) (R335 : List Own), Ctx W w334 (R324 ++ R335) Φ325 → Ctx W w334 (R331 ++ R335) Φ332) ∧ I330 0 0 R331 Φ332 k333) ∧ ∀ (n336 n337 : Int) (R338 : List Own) (I339 : List
  Nat → World → Prop) (k340 : Nat), Stable I339 → I330 n336 n337 R338 I339 k340 → Br (decide (n337 < (↑k37 : Int))) (exI fun (I341 : Int → Option Addr → Nat → Nat → List Own → PW → Nat →
  Prop) => (∃ (R342 : List Own), ∃ (Φ343 : PW), ∃ (k344 : Nat), Stable Φ343 ∧ (∀ (w345 : World) (R346 : List Own), Ctx W w345 (R338 ++ R346) I339 → Ctx W w345 (R342 ++ R346) Φ343) ∧ I341 n336
  none 0 0 R342 Φ343 k344) ∧ ∀ (n347 : Int) (p348 : Option Addr) (k349 k350 : Nat) (R351 : List Own) (I352 : List Nat → World → Prop) (k353 : Nat), Stable I352 → I341 n347 p348 k349 k350 R351
  I352 k353 → ∀ (w354 : World) (R355 : List Own), Ctx W w354 (R351 ++ R355) I352 → ((0 : Int) ≤ 0 ∧ 0 < (↑k48 : Int)) ∧ ptrK none p47 fun (k356 k357 : Nat) => ∃ (p358 : Option Addr), ∃ (k359
  : Nat), ∃ (k360 : Nat), w354.cell? (Addr.mk k356 k357 none) = some (Value.slice p358 k359 k360) ∧ (decide (n347 < (↑k359 : Int)) = true → (0 : Int) ≤ 0 ∧ 0 < (↑k48 : Int)) ∧ ptrK (some
  (decide (n347 < (↑k359 : Int)))) p47 fun (k361 k362 : Nat) => ∃ (p363 : Option Addr), ∃ (k364 : Nat), ∃ (k365 : Nat), (decide (n347 < (↑k359 : Int)) = true → w354.cell? (Addr.mk k361 k362
  none) = some (Value.slice p363 k364 k365)) ∧ (decide (n347 < (↑k359 : Int)) = true → (0 : Int) ≤ 0 ∧ 0 < (↑k48 : Int)) ∧ ptrK (some (decide (n347 < (↑k359 : Int)))) p47 fun (k366 k367 :
  Nat) => ∃ (p368 : Option Addr), ∃ (k369 : Nat), ∃ (k370 : Nat), (decide (n347 < (↑k359 : Int)) = true → w354.cell? (Addr.mk k366 k367 none) = some (Value.slice p368 k369 k370)) ∧ (decide
  (n347 < (↑k359 : Int)) = true → I64 ((↑k369 : Int) - 1)) ∧ (decide (n347 < (↑k359 : Int)) = true → 0 ≤ min n347 ((↑k369 : Int) - 1) ∧ min n347 ((↑k369 : Int) - 1) < (↑k364 : Int)) ∧ ptrK
  (some (decide (n347 < (↑k359 : Int)))) p363 fun (k371 k372 : Nat) => ∃ (n373 : Int), (decide (n347 < (↑k359 : Int)) = true → w354.cell? (Addr.mk k371 (k372 + (min n347 ((↑k369 : Int) -
  1)).toNat * 7 + 1) none) = some (Value.int IntKind.i64 n373)) ∧ (decide (n347 < (↑k359 : Int)) = true → 0 ≤ n337 ∧ n337 < (↑k37 : Int)) ∧ ptrK (some (decide (n347 < (↑k359 : Int)))) p36 fun
  (k374 k375 : Nat) => ∃ (n376 : Int), (decide (n347 < (↑k359 : Int)) = true → w354.cell? (Addr.mk k374 (k375 + n337.toNat) none) = some (Value.int IntKind.i64 n376)) ∧ Br (decide (n347 <
  (↑k359 : Int)) && decide (n373 = n376)) (((0 : Int) ≤ 0 ∧ 0 < (↑k48 : Int)) ∧ ptrK none p47 fun (k377 k378 : Nat) => ∀ (w379 : World) (R380 : List Own), Ctx W w379 (R351 ++ R380) I352 → ∃
  (p381 : Option Addr), ∃ (k382 : Nat), ∃ (k383 : Nat), w379.cell? (Addr.mk k377 k378 none) = some (Value.slice p381 k382 k383) ∧ (0 ≤ n347 ∧ n347 < (↑k382 : Int)) ∧ ptrK none p381 fun (k384
  k385 : Nat) => ∀ (w386 : World) (R387 : List Own), Ctx W w386 (R351 ++ R387) I352 → ∃ (n388 : Int), ∃ (n389 : Int), ∃ (n390 : Int), ∃ (p391 : Option Addr), ∃ (k392 : Nat), ∃ (k393 : Nat), ∃
  (n394 : Int), ∃ (n395 : Int), ∃ (n396 : Int), RowAt w386 k384 (k385 + n347.toNat * 7) [Value.int IntKind.i64 n388, Value.int IntKind.i64 n389, Value.int IntKind.i64 n390, Value.slice p391
  k392 k393, Value.int IntKind.i64 n394, Value.int IntKind.i64 n395, Value.int IntKind.i64 n396] ∧ ∀ (b : Nat), I64 (n347 + 1) ∧ ∀ (k397 : Nat) (w398 : World) (R399 : List Own), Ctx W w398
  (Own.blk k397 [Value.int IntKind.i64 (n347 + 1), Value.int IntKind.i64 n389, Value.int IntKind.i64 n390, Value.slice p391 k392 k393, Value.int IntKind.i64 n394, Value.int IntKind.i64 n395,
  Value.int IntKind.i64 n396] 46 :: R351 ++ R399) I352 → ∃ (p400 : Option Addr), ∃ (k401 : Nat), ∃ (k402 : Nat), ∃ (w403 : World), Sem.run Tryz.prog (builtin Builtin.append #[33, 33] 33
  #[false, false] #[Value.slice p348 k349 k350, Value.slice (some (Addr.mk k397 0 none)) 1 1]) w398 = Result.ok (Next.value (Value.slice p400 k401 k402)) w403 ∧ ∃ (R404 : List Own), ∃ (Φ405 :
  PW), Stable Φ405 ∧ Ctx W w403 (R404 ++ R399) Φ405 ∧ I64 (n347 + 1) ∧ ∃ (R406 : List Own), ∃ (Φ407 : PW), ∃ (k408 : Nat), Stable Φ407 ∧ (∀ (w409 : World) (R410 : List Own), Ctx W w409 (R404
  ++ R410) Φ405 → Ctx W w409 (R406 ++ R410) Φ407) ∧ I341 (n347 + 1) p400 k401 k402 R406 Φ407 k408 ∧ k408 < k353) ((0 ≤ n337 ∧ n337 < (↑k37 : Int)) ∧ ptrK none p36 fun (k411 k412 : Nat) => ∀
  (w413 : World) (R414 : List Own), Ctx W w413 (R351 ++ R414) I352 → ∃ (n415 : Int), w413.cell? (Addr.mk k411 (k412 + n337.toNat) none) = some (Value.int IntKind.i64 n415) ∧ ∀ (w416 : World)
  (R417 : List Own), Ctx W w416 (R351 ++ R417) I352 → Calls Tryz.prog F.errataref43_Sink_look #[Value.pointer p27, Value.int IntKind.i64 n415, Value.slice p348 k349 k350] w416 fun (e418 :
  Ending) (w419 : World) => ∃ (n420 : Int), e418 = Ending.returned (Value.int IntKind.i64 n420) ∧ ∃ (R421 : List Own), ∃ (Φ422 : PW), Stable Φ422 ∧ Ctx W w419 (R421 ++ R417) Φ422 ∧ Br (decide
  (n420 ≠ 0)) (∀ (w423 : World) (R424 : List Own), Ctx W w423 (R421 ++ R424) Φ422 → J (Value.tuple #[Value.pointer none, Value.bool false]) w423) ((0 ≤ n337 ∧ n337 < (↑k37 : Int)) ∧ ptrK none
  p36 fun (k425 k426 : Nat) => ∀ (w427 : World) (R428 : List Own), Ctx W w427 (R421 ++ R428) Φ422 → ∃ (n429 : Int), w427.cell? (Addr.mk k425 (k426 + n337.toNat) none) = some (Value.int
  IntKind.i64 n429) ∧ ∀ (w430 : World) (R431 : List Own), Ctx W w430 (R421 ++ R431) Φ422 → Calls Tryz.prog F.errataref43_Sink_take #[Value.pointer p27, Value.int IntKind.i64 n429, Value.slice
  p348 k349 k350] w430 fun (e432 : Ending) (w433 : World) => e432 = Ending.returned (Value.tuple #[]) ∧ ∃ (R434 : List Own), ∃ (Φ435 : PW), Stable Φ435 ∧ Ctx W w433 (R434 ++ R431) Φ435 ∧ I64
  (n337 + 1) ∧ ∃ (R436 : List Own), ∃ (Φ437 : PW), ∃ (k438 : Nat), Stable Φ437 ∧ (∀ (w439 : World) (R440 : List Own), Ctx W w439 (R434 ++ R440) Φ435 → Ctx W w439 (R436 ++ R440) Φ437) ∧ I330
  n347 (n337 + 1) R436 Φ437 k438 ∧ k438 < k340))) (exI fun (I441 : Int → List Own → PW → Nat → Prop) => (∃ (R442 : List Own), ∃ (Φ443 : PW), ∃ (k444 : Nat), Stable Φ443 ∧ (∀ (w445 : World)
  (R446 : List Own), Ctx W w445 (R338 ++ R446) I339 → Ctx W w445 (R442 ++ R446) Φ443) ∧ I441 0 R442 Φ443 k444) ∧ ∀ (n447 : Int) (R448 : List Own) (I449 : List Nat → World → Prop) (k450 :
  Nat), Stable I449 → I441 n447 R448 I449 k450 → ((0 : Int) ≤ 1 ∧ 1 < (↑k48 : Int)) ∧ ptrK none p47 fun (k451 k452 : Nat) => ∀ (w453 : World) (R454 : List Own), Ctx W w453 (R448 ++ R454) I449
  → ∃ (p455 : Option Addr), ∃ (k456 : Nat), ∃ (k457 : Nat), w453.cell? (Addr.mk k451 k452.succ none) = some (Value.slice p455 k456 k457) ∧ Br (decide (n447 < (↑k456 : Int))) (((0 : Int) ≤ 1 ∧
  1 < (↑k48 : Int)) ∧ ptrK none p47 fun (k458 k459 : Nat) => ptrK none p27 fun (k460 k461 : Nat) => ∀ (w462 : World) (R463 : List Own), Ctx W w462 (R448 ++ R463) I449 → ∃ (p464 : Option
  Addr), ∃ (k465 : Nat), ∃ (k466 : Nat), w462.cell? (Addr.mk k458 k459.succ none) = some (Value.slice p464 k465 k466) ∧ ∀ (w467 : World) (R468 : List Own), Ctx W w467 (R448 ++ R468) I449 → ∃
  (p469 : Option Addr), ∃ (k470 : Nat), ∃ (k471 : Nat), w467.cell? (Addr.mk k460 (k461 + 3) none) = some (Value.slice p469 k470 k471) ∧ I64 ((↑k470 : Int) + 1) ∧ I64 ((↑k470 : Int) + 1 +
  n447) ∧ (0 ≤ n447 ∧ n447 < (↑k465 : Int)) ∧ ptrK none p464 fun (k472 k473 : Nat) => ∀ (w474 : World) (R475 : List Own), Ctx W w474 (R448 ++ R475) I449 → CanWrite w474 k472 (k473 +
  n447.toNat * 7) 1 ∧ ∀ (w476 : World), w476 = w474.setCell (Addr.mk k472 (k473 + n447.toNat * 7) none) (Value.int IntKind.i64 ((↑k470 : Int) + 1 + n447)) → ∃ (R477 : List Own), ∃ (Φ478 :
  PW), Stable Φ478 ∧ Ctx W w476 (R477 ++ R475) Φ478 ∧ I64 (n447 + 1) ∧ ∃ (R479 : List Own), ∃ (Φ480 : PW), ∃ (k481 : Nat), Stable Φ480 ∧ (∀ (w482 : World) (R483 : List Own), Ctx W w482 (R477
  ++ R483) Φ478 → Ctx W w482 (R479 ++ R483) Φ480) ∧ I441 (n447 + 1) R479 Φ480 k481 ∧ k481 < k450) (Br (decide (n50 ≠ 0)) (((0 : Int) ≤ 1 ∧ 1 < (↑k48 : Int)) ∧ ptrK none p47 fun (k484 k485 :
  Nat) => ∀ (w486 : World) (R487 : List Own), Ctx W w486 (R448 ++ R487) I449 → ∃ (p488 : Option Addr), ∃ (k489 : Nat), ∃ (k490 : Nat), w486.cell? (Addr.mk k484 k485.succ none) = some
  (Value.slice p488 k489 k490) ∧ ∀ (w491 : World) (R492 : List Own), Ctx W w491 (R448 ++ R492) I449 → Calls Tryz.prog F.errataref43_Sink_Prepare #[Value.pointer p27, Value.int IntKind.i64
  n50, Value.slice p488 k489 k490] w491 fun (e493 : Ending) (w494 : World) => ∃ (n495 : Int), e493 = Ending.returned (Value.int IntKind.i64 n495) ∧ ∃ (R496 : List Own), ∃ (Φ497 : PW), Stable
  Φ497 ∧ Ctx W w494 (R496 ++ R492) Φ497 ∧ Br (decide (n495 ≠ 0)) (∀ (w498 : World) (R499 : List Own), Ctx W w498 (R496 ++ R499) Φ497 → J (Value.tuple #[Value.pointer none, Value.bool false])
  w498) (Br (decide (n50 ≠ 0)) (ptrK none p27 fun (k500 k501 : Nat) => ∀ (w502 : World) (R503 : List Own), Ctx W w502 (R496 ++ R503) Φ497 → ∃ (n504 : Int), w502.cell? (Addr.mk k500 (k501 + 4)
  none) = some (Value.int IntKind.i64 n504) ∧ Br (decide (n504 ≠ n50)) (∀ (w505 : World) (R506 : List Own), Ctx W w505 (R496 ++ R506) Φ497 → J (Value.tuple #[Value.pointer none, Value.bool
  false]) w505) (Br (decide (n50 = 0)) (((0 : Int) ≤ 1 ∧ 1 < (↑k48 : Int)) ∧ ptrK none p47 fun (k507 k508 : Nat) => ∀ (w509 : World) (R510 : List Own), Ctx W w509 (R496 ++ R510) Φ497 → ∃
  (p511 : Option Addr), ∃ (k512 : Nat), ∃ (k513 : Nat), w509.cell? (Addr.mk k507 k508.succ none) = some (Value.slice p511 k512 k513) ∧ Br (decide (0 < (↑k512 : Int))) (∀ (w514 : World) (R515
  : List Own), Ctx W w514 (R496 ++ R515) Φ497 → J (Value.tuple #[Value.pointer none, Value.bool false]) w514) (∀ (w516 : World) (R517 : List Own), Ctx W w516 (R496 ++ R517) Φ497 → Calls
  Tryz.prog F.errataref43_Sink_Bytes #[Value.pointer p27] w516 fun (e518 : Ending) (w519 : World) => ∃ (s520 : ByteArray), e518 = Ending.returned (Value.string s520) ∧ ∃ (R521 : List Own), ∃
  (Φ522 : PW), Stable Φ522 ∧ Ctx W w519 (R521 ++ R517) Φ522 ∧ Br (decide (s520 ≠ x)) (∀ (w523 : World) (R524 : List Own), Ctx W w523 (R521 ++ R524) Φ522 → J (Value.tuple #[Value.pointer none,
  Value.bool false]) w523) (∀ (w525 : World) (R526 : List Own), Ctx W w525 (R521 ++ R526) Φ522 → J (Value.tuple #[Value.pointer p27, Value.bool true]) w525))) (∀ (w527 : World) (R528 : List
  Own), Ctx W w527 (R496 ++ R528) Φ497 → Calls Tryz.prog F.errataref43_Sink_Bytes #[Value.pointer p27] w527 fun (e529 : Ending) (w530 : World) => ∃ (s531 : ByteArray), e529 = Ending.returned
  (Value.string s531) ∧ ∃ (R532 : List Own), ∃ (Φ533 : PW), Stable Φ533 ∧ Ctx W w530 (R532 ++ R528) Φ533 ∧ Br (decide (s531 ≠ x)) (∀ (w534 : World) (R535 : List Own), Ctx W w534 (R532 ++
  R535) Φ533 → J (Value.tuple #[Value.pointer none, Value.bool false]) w534) (∀ (w536 : World) (R537 : List Own), Ctx W w536 (R532 ++ R537) Φ533 → J (Value.tuple #[Value.pointer p27,
  Value.bool true]) w536)))) (Br (decide (n50 = 0)) (((0 : Int) ≤ 1 ∧ 1 < (↑k48 : Int)) ∧ ptrK none p47 fun (k538 k539 : Nat) => ∀ (w540 : World) (R541 : List Own), Ctx W w540 (R496 ++ R541)
  Φ497 → ∃ (p542 : Option Addr), ∃ (k543 : Nat), ∃ (k544 : Nat), w540.cell? (Addr.mk k538 k539.succ none) = some (Value.slice p542 k543 k544) ∧ Br (decide (0 < (↑k543 : Int))) (∀ (w545 :
  World) (R546 : List Own), Ctx W w545 (R496 ++ R546) Φ497 → J (Value.tuple #[Value.pointer none, Value.bool false]) w545) (∀ (w547 : World) (R548 : List Own), Ctx W w547 (R496 ++ R548) Φ497
  → Calls Tryz.prog F.errataref43_Sink_Bytes #[Value.pointer p27] w547 fun (e549 : Ending) (w550 : World) => ∃ (s551 : ByteArray), e549 = Ending.returned (Value.string s551) ∧ ∃ (R552 : List
  Own), ∃ (Φ553 : PW), Stable Φ553 ∧ Ctx W w550 (R552 ++ R548) Φ553 ∧ Br (decide (s551 ≠ x)) (∀ (w554 : World) (R555 : List Own), Ctx W w554 (R552 ++ R555) Φ553 → J (Value.tuple
  #[Value.pointer none, Value.bool false]) w554) (∀ (w556 : World) (R557 : List Own), Ctx W w556 (R552 ++ R557) Φ553 → J (Value.tuple #[Value.pointer p27, Value.bool true]) w556))) (∀ (w558 :
  World) (R559 : List Own), Ctx W w558 (R496 ++ R559) Φ497 → Calls Tryz.prog F.errataref43_Sink_Bytes #[Value.pointer p27] w558 fun (e560 : Ending) (w561 : World) => ∃ (s562 : ByteArray),
  e560 = Ending.returned (Value.string s562) ∧ ∃ (R563 : List Own), ∃ (Φ564 : PW), Stable Φ564 ∧ Ctx W w561 (R563 ++ R559) Φ564 ∧ Br (decide (s562 ≠ x)) (∀ (w565 : World) (R566 : List Own),
  Ctx W w565 (R563 ++ R566) Φ564 → J (Value.tuple #[Value.pointer none, Value.bool false]) w565) (∀ (w567 : World) (R568 : List Own), Ctx W w567 (R563 ++ R568) Φ564 → J (Value.tuple
  #[Value.pointer p27, Value.bool true]) w567))))) (Br (decide (n50 ≠ 0)) (ptrK none p27 fun (k569 k570 : Nat) => ∀ (w571 : World) (R572 : List Own), Ctx W w571 (R448 ++ R572) I449 → ∃ (n573
  : Int), w571.cell? (Addr.mk k569 (k570 + 4) none) = some (Value.int IntKind.i64 n573) ∧ Br (decide (n573 ≠ n50)) (∀ (w574 : World) (R575 : List Own), Ctx W w574 (R448 ++ R575) I449 → J
  (Value.tuple #[Value.pointer none, Value.bool false]) w574) (Br (decide (n50 = 0)) (((0 : Int) ≤ 1 ∧ 1 < (↑k48 : Int)) ∧ ptrK none p47 fun (k576 k577 : Nat) => ∀ (w578 : World) (R579 : List
  Own), Ctx W w578 (R448 ++ R579) I449 → ∃ (p580 : Option Addr), ∃ (k581 : Nat), ∃ (k582 : Nat), w578.cell? (Addr.mk k576 k577.succ none) = some (Value.slice p580 k581 k582) ∧ Br (decide (0 <
  (↑k581 : Int))) (∀ (w583 : World) (R584 : List Own), Ctx W w583 (R448 ++ R584) I449 → J (Value.tuple #[Value.pointer none, Value.bool false]) w583) (∀ (w585 : World) (R586 : List Own), Ctx
  W w585 (R448 ++ R586) I449 → Calls Tryz.prog F.errataref43_Sink_Bytes #[Value.pointer p27] w585 fun (e587 : Ending) (w588 : World) => ∃ (s589 : ByteArray), e587 = Ending.returned
  (Value.string s589) ∧ ∃ (R590 : List Own), ∃ (Φ591 : PW), Stable Φ591 ∧ Ctx W w588 (R590 ++ R586) Φ591 ∧ Br (decide (s589 ≠ x)) (∀ (w592 : World) (R593 : List Own), Ctx W w592 (R590 ++
  R593) Φ591 → J (Value.tuple #[Value.pointer none, Value.bool false]) w592) (∀ (w594 : World) (R595 : List Own), Ctx W w594 (R590 ++ R595) Φ591 → J (Value.tuple #[Value.pointer p27,
  Value.bool true]) w594))) (∀ (w596 : World) (R597 : List Own), Ctx W w596 (R448 ++ R597) I449 → Calls Tryz.prog F.errataref43_Sink_Bytes #[Value.pointer p27] w596 fun (e598 : Ending) (w599
  : World) => ∃ (s600 : ByteArray), e598 = Ending.returned (Value.string s600) ∧ ∃ (R601 : List Own), ∃ (Φ602 : PW), Stable Φ602 ∧ Ctx W w599 (R601 ++ R597) Φ602 ∧ Br (decide (s600 ≠ x)) (∀
  (w603 : World) (R604 : List Own), Ctx W w603 (R601 ++ R604) Φ602 → J (Value.tuple #[Value.pointer none, Value.bool false]) w603) (∀ (w605 : World) (R606 : List Own), Ctx W w605 (R601 ++
  R606) Φ602 → J (Value.tuple #[Value.pointer p27, Value.bool true]) w605)))) (Br (decide (n50 = 0)) (((0 : Int) ≤ 1 ∧ 1 < (↑k48 : Int)) ∧ ptrK none p47 fun (k607 k608 : Nat) => ∀ (w609 :
  World) (R610 : List Own), Ctx W w609 (R448 ++ R610) I449 → ∃ (p611 : Option Addr), ∃ (k612 : Nat), ∃ (k613 : Nat), w609.cell? (Addr.mk k607 k608.succ none) = some (Value.slice p611 k612
  k613) ∧ Br (decide (0 < (↑k612 : Int))) (∀ (w614 : World) (R615 : List Own), Ctx W w614 (R448 ++ R615) I449 → J (Value.tuple #[Value.pointer none, Value.bool false]) w614) (∀ (w616 : World)
  (R617 : List Own), Ctx W w616 (R448 ++ R617) I449 → Calls Tryz.prog F.errataref43_Sink_Bytes #[Value.pointer p27] w616 fun (e618 : Ending) (w619 : World) => ∃ (s620 : ByteArray), e618 =
  Ending.returned (Value.string s620) ∧ ∃ (R621 : List Own), ∃ (Φ622 : PW), Stable Φ622 ∧ Ctx W w619 (R621 ++ R617) Φ622 ∧ Br (decide (s620 ≠ x)) (∀ (w623 : World) (R624 : List Own), Ctx W
  w623 (R621 ++ R624) Φ622 → J (Value.tuple #[Value.pointer none, Value.bool false]) w623) (∀ (w625 : World) (R626 : List Own), Ctx W w625 (R621 ++ R626) Φ622 → J (Value.tuple #[Value.pointer
  p27, Value.bool true]) w625))) (∀ (w627 : World) (R628 : List Own), Ctx W w627 (R448 ++ R628) I449 → Calls Tryz.prog F.errataref43_Sink_Bytes #[Value.pointer p27] w627 fun (e629 : Ending)
  (w630 : World) => ∃ (s631 : ByteArray), e629 = Ending.returned (Value.string s631) ∧ ∃ (R632 : List Own), ∃ (Φ633 : PW), Stable Φ633 ∧ Ctx W w630 (R632 ++ R628) Φ633 ∧ Br (decide (s631 ≠
  x)) (∀ (w634 : World) (R635 : List Own), Ctx W w634 (R632 ++ R635) Φ633 → J (Value.tuple #[Value.pointer none, Value.bool false]) w634) (∀ (w636 : World) (R637 : List Own), Ctx W w636 (R632
  ++ R637) Φ633 → J (Value.tuple #[Value.pointer p27, Value.bool true]) w636))))))))))

theorem Berrataref43_Read_run (x : ByteArray) {W w : World} {R : List Own} {Φ : PW} [Stable Φ] {J : Value → World → Prop} (c : Ctx W w R Φ) (h : Berrataref43_Read x W R Φ J) : Calls Tryz.prog F.errataref43_Read #[.string x] w fun e w' => ∃ v, e = .returned v ∧ J v w' :=
  vcFS_sound (H := { keep := some [0, 2, 3, 4, 5, 6, 7, 8, 9, 10, 11, 12, 13, 14, 15, 16, 17, 18, 19, 20, 21, 22, 32, 36, 40, 52, 103, 107, 135, 158, 171, 227], track := [15, 21], stages := [(49, [.stage [0, 3, 4, 10, 1, 5, 2, 6, 7, 8, 9, 11] none, .stage [12] none, .stage [13] (some 14)])], split := [18, 31, 50], loops := [(47, [(22, .one (.int .i64))], []), (38, [(18, .one (.int .i64)), (20, .one (.slice))], []), (35, [(18, .one (.int .i64)), (19, .one (.int .i64))], []), (18, [(10, .one (.bool)), (13, .one (.slice)), (14, .one (.int .i64))], []), (11, [(8, .one (.slice)), (9, .one (.int .i64)), (10, .one (.bool)), (11, .one (.int .i64))], [])] }) (by rw [show vcFS Tryz.prog W { keep := some [0, 2, 3, 4, 5, 6, 7, 8, 9, 10, 11, 12, 13, 14, 15, 16, 17, 18, 19, 20, 21, 22, 32, 36, 40, 52, 103, 107, 135, 158, 171, 227], track := [15, 21], stages := [(49, [.stage [0, 3, 4, 10, 1, 5, 2, 6, 7, 8, 9, 11] none, .stage [12] none, .stage [13] (some 14)])], split := [18, 31, 50], loops := [(47, [(22, .one (.int .i64))], []), (38, [(18, .one (.int .i64)), (20, .one (.slice))], []), (35, [(18, .one (.int .i64)), (19, .one (.int .i64))], []), (18, [(10, .one (.bool)), (13, .one (.slice)), (14, .one (.int .i64))], []), (11, [(8, .one (.slice)), (9, .one (.int .i64)), (10, .one (.bool)), (11, .one (.int .i64))], [])] } F.errataref43_Read #[.string x] R Φ J = Berrataref43_Read x W R Φ J by kernel_rfl]; exact h) c

/-- errataref43.New -/
-- loop at region 2: 5 i; blocks 
def Berrataref43_New (kind : Int) (keyP : Option Addr) (keyN keyC : Nat) (W : World) (R : List Own) (Φ : PW) (J : Value → World → Prop) : Prop :=
  exI fun (I0 : Int → List Own → PW → Nat → Prop) => (∃ (R1 : List Own), ∃ (Φ2 : PW), ∃ (k3 : Nat), Stable Φ2 ∧ (∀ (w4 : World) (R5 : List Own), Ctx W w4 (R ++ R5) Φ → Ctx W w4 (R1 ++ R5) Φ2)
  ∧ I0 0 R1 Φ2 k3) ∧ ∀ (n6 : Int) (R7 : List Own) (I8 : List Nat → World → Prop) (k9 : Nat), Stable I8 → I0 n6 R7 I8 k9 → Br (decide (n6 < (↑keyN : Int))) ((0 ≤ n6 ∧ n6 < (↑keyN : Int)) ∧
  ptrK none keyP fun (k10 k11 : Nat) => ∀ (w12 : World) (R13 : List Own), Ctx W w12 (R7 ++ R13) I8 → ∃ (n14 : Int), w12.cell? (Addr.mk k10 (k11 + n6.toNat) none) = some (Value.int IntKind.i64
  n14) ∧ Br (decide (n14 < 0)) (∀ (w15 : World) (R16 : List Own), Ctx W w15 (R7 ++ R16) I8 → J (Value.pointer none) w15) (I64 (n6 + 1) ∧ ∃ (R17 : List Own), ∃ (Φ18 : PW), ∃ (k19 : Nat),
  Stable Φ18 ∧ (∀ (w20 : World) (R21 : List Own), Ctx W w20 (R7 ++ R21) I8 → Ctx W w20 (R17 ++ R21) Φ18) ∧ I0 (n6 + 1) R17 Φ18 k19 ∧ k19 < k9)) (∀ (w22 : World) (R23 : List Own), Ctx W w22
  (R7 ++ R23) I8 → Br (decide (kind < 0) || decide (3 ≤ kind) || decide (0 < (↑keyN : Int)) && decide (kind ≠ 1)) (∀ (w24 : World) (R25 : List Own), Ctx W w24 (R7 ++ R25) I8 → J
  (Value.pointer none) w24) (∀ (k26 : Nat) (w27 : World) (R28 : List Own), Ctx W w27 (Own.blk k26 [] 3 :: R7 ++ R28) I8 → ∃ (p29 : Option Addr), ∃ (k30 : Nat), ∃ (k31 : Nat), ∃ (w32 : World),
  Sem.run Tryz.prog (builtin Builtin.append #[50, 50] 50 #[false, false] #[Value.slice (some (Addr.mk k26 0 none)) 0 0, Value.slice keyP keyN keyC]) w27 = Result.ok (Next.value (Value.slice
  p29 k30 k31)) w32 ∧ ∃ (R33 : List Own), ∃ (Φ34 : PW), Stable Φ34 ∧ Ctx W w32 (R33 ++ R28) Φ34 ∧ ∀ (k35 : Nat) (w36 : World) (R37 : List Own), Ctx W w36 (Own.blk k35 [Value.int IntKind.i64
  kind, Value.slice p29 k30 k31, Value.slice none 0 0, Value.slice none 0 0, Value.int IntKind.i64 0, Value.slice none 0 0] 54 :: R33 ++ R37) Φ34 → J (Value.pointer (some (Addr.mk k35 0
  none))) w36))

theorem Berrataref43_New_run (kind : Int) (keyP : Option Addr) (keyN keyC : Nat) {W w : World} {R : List Own} {Φ : PW} [Stable Φ] {J : Value → World → Prop} (c : Ctx W w R Φ) (h : Berrataref43_New kind keyP keyN keyC W R Φ J) : Calls Tryz.prog F.errataref43_New #[.int .i64 kind, .slice keyP keyN keyC] w fun e w' => ∃ v, e = .returned v ∧ J v w' :=
  vcFS_sound (H := { keep := some [0, 1, 4, 5, 9, 16, 31], loops := [(2, [(5, .one (.int .i64))], [])] }) (by rw [show vcFS Tryz.prog W { keep := some [0, 1, 4, 5, 9, 16, 31], loops := [(2, [(5, .one (.int .i64))], [])] } F.errataref43_New #[.int .i64 kind, .slice keyP keyN keyC] R Φ J = Berrataref43_New kind keyP keyN keyC W R Φ J by kernel_rfl]; exact h) c

/-- (*errataref43.Sink).Last -/
def Berrataref43_Sink_Last (sB sO : Nat) (W : World) (R : List Own) (Φ : PW) (J : Value → World → Prop) : Prop :=
  ∀ (w0 : World) (R1 : List Own), Ctx W w0 (R ++ R1) Φ → ∃ (p2 : Option Addr), ∃ (k3 : Nat), ∃ (k4 : Nat), w0.cell? (Addr.mk sB (sO + 2) none) = some (Value.slice p2 k3 k4) ∧ Br (decide ((↑k3
  : Int) = 0)) (∀ (w5 : World) (R6 : List Own), Ctx W w5 (R ++ R6) Φ → J (Value.int IntKind.i64 0) w5) (∀ (w7 : World) (R8 : List Own), Ctx W w7 (R ++ R8) Φ → ∃ (p9 : Option Addr), ∃ (k10 :
  Nat), ∃ (k11 : Nat), w7.cell? (Addr.mk sB (sO + 2) none) = some (Value.slice p9 k10 k11) ∧ ∃ (p12 : Option Addr), ∃ (k13 : Nat), ∃ (k14 : Nat), w7.cell? (Addr.mk sB (sO + 2) none) = some
  (Value.slice p12 k13 k14) ∧ I64 ((↑k13 : Int) - 1) ∧ (0 ≤ (↑k13 : Int) - 1 ∧ (↑k13 : Int) - 1 < (↑k10 : Int)) ∧ ptrK none p9 fun (k15 k16 : Nat) => ∃ (n17 : Int), w7.cell? (Addr.mk k15 (k16
  + ((↑k13 : Int) - 1).toNat) none) = some (Value.int IntKind.i64 n17) ∧ ∀ (w18 : World) (R19 : List Own), Ctx W w18 (R ++ R19) Φ → J (Value.int IntKind.i64 n17) w18)

theorem Berrataref43_Sink_Last_run (sB sO : Nat) {W w : World} {R : List Own} {Φ : PW} [Stable Φ] {J : Value → World → Prop} (c : Ctx W w R Φ) (h : Berrataref43_Sink_Last sB sO W R Φ J) : Calls Tryz.prog F.errataref43_Sink_Last #[.pointer (some ⟨sB, sO, none⟩)] w fun e w' => ∃ v, e = .returned v ∧ J v w' :=
  vcFS_sound (H := { keep := some [0, 2, 8] }) (by rw [show vcFS Tryz.prog W { keep := some [0, 2, 8] } F.errataref43_Sink_Last #[.pointer (some ⟨sB, sO, none⟩)] R Φ J = Berrataref43_Sink_Last sB sO W R Φ J by kernel_rfl]; exact h) c

/-- (*errataref43.Sink).Has -/
-- loop at region 2: 5 i; blocks 
def Berrataref43_Sink_Has (sB sO : Nat) (batch : Int) (W : World) (R : List Own) (Φ : PW) (J : Value → World → Prop) : Prop :=
  exI fun (I0 : Int → List Own → PW → Nat → Prop) => (∃ (R1 : List Own), ∃ (Φ2 : PW), ∃ (k3 : Nat), Stable Φ2 ∧ (∀ (w4 : World) (R5 : List Own), Ctx W w4 (R ++ R5) Φ → Ctx W w4 (R1 ++ R5) Φ2)
  ∧ I0 0 R1 Φ2 k3) ∧ ∀ (n6 : Int) (R7 : List Own) (I8 : List Nat → World → Prop) (k9 : Nat), Stable I8 → I0 n6 R7 I8 k9 → ∀ (w10 : World) (R11 : List Own), Ctx W w10 (R7 ++ R11) I8 → ∃ (p12 :
  Option Addr), ∃ (k13 : Nat), ∃ (k14 : Nat), w10.cell? (Addr.mk sB (sO + 2) none) = some (Value.slice p12 k13 k14) ∧ Br (decide (n6 < (↑k13 : Int))) (∀ (w15 : World) (R16 : List Own), Ctx W
  w15 (R7 ++ R16) I8 → ∃ (p17 : Option Addr), ∃ (k18 : Nat), ∃ (k19 : Nat), w15.cell? (Addr.mk sB (sO + 2) none) = some (Value.slice p17 k18 k19) ∧ (0 ≤ n6 ∧ n6 < (↑k18 : Int)) ∧ ptrK none
  p17 fun (k20 k21 : Nat) => ∀ (w22 : World) (R23 : List Own), Ctx W w22 (R7 ++ R23) I8 → ∃ (n24 : Int), w22.cell? (Addr.mk k20 (k21 + n6.toNat) none) = some (Value.int IntKind.i64 n24) ∧ Br
  (decide (n24 = batch)) (∀ (w25 : World) (R26 : List Own), Ctx W w25 (R7 ++ R26) I8 → J (Value.bool true) w25) (I64 (n6 + 1) ∧ ∃ (R27 : List Own), ∃ (Φ28 : PW), ∃ (k29 : Nat), Stable Φ28 ∧
  (∀ (w30 : World) (R31 : List Own), Ctx W w30 (R7 ++ R31) I8 → Ctx W w30 (R27 ++ R31) Φ28) ∧ I0 (n6 + 1) R27 Φ28 k29 ∧ k29 < k9)) (∀ (w32 : World) (R33 : List Own), Ctx W w32 (R7 ++ R33) I8
  → J (Value.bool false) w32)

theorem Berrataref43_Sink_Has_run (sB sO : Nat) (batch : Int) {W w : World} {R : List Own} {Φ : PW} [Stable Φ] {J : Value → World → Prop} (c : Ctx W w R Φ) (h : Berrataref43_Sink_Has sB sO batch W R Φ J) : Calls Tryz.prog F.errataref43_Sink_Has #[.pointer (some ⟨sB, sO, none⟩), .int .i64 batch] w fun e w' => ∃ v, e = .returned v ∧ J v w' :=
  vcFS_sound (H := { keep := some [0, 1, 4, 5, 12, 23], loops := [(2, [(5, .one (.int .i64))], [])] }) (by rw [show vcFS Tryz.prog W { keep := some [0, 1, 4, 5, 12, 23], loops := [(2, [(5, .one (.int .i64))], [])] } F.errataref43_Sink_Has #[.pointer (some ⟨sB, sO, none⟩), .int .i64 batch] R Φ J = Berrataref43_Sink_Has sB sO batch W R Φ J by kernel_rfl]; exact h) c

/-- (*errataref43.Sink).Bytes -/
def Berrataref43_Sink_Bytes (sB sO : Nat) (W : World) (R : List Own) (Φ : PW) (J : Value → World → Prop) : Prop :=
  ∃ (R0 : List Own), ∃ (Φ1 : PW), Stable Φ1 ∧ (∀ (w2 : World) (R3 : List Own), Ctx W w2 (R ++ R3) Φ → Ctx W w2 (R0 ++ R3) Φ1) ∧ ∃ (n4 : Int), (∀ (w5 : World) (R6 : List Own), Ctx W w5 (R0 ++
  R6) Φ1 → ∃ (n7 : Int), w5.cell? (Addr.mk sB sO none) = some (Value.int IntKind.i64 n7) ∧ Value.int IntKind.i64 n7 = Value.int IntKind.i64 n4) ∧ ∃ (p8 : Option Addr), ∃ (k9 : Nat), ∃ (k10 :
  Nat), (∀ (w11 : World) (R12 : List Own), Ctx W w11 (R0 ++ R12) Φ1 → ∃ (p13 : Option Addr), ∃ (k14 : Nat), ∃ (k15 : Nat), w11.cell? (Addr.mk sB (sO + 1) none) = some (Value.slice p13 k14
  k15) ∧ Value.slice p13 k14 k15 = Value.slice p8 k9 k10) ∧ ∃ (p16 : Option Addr), ∃ (k17 : Nat), ∃ (k18 : Nat), (∀ (w19 : World) (R20 : List Own), Ctx W w19 (R0 ++ R20) Φ1 → ∃ (p21 : Option
  Addr), ∃ (k22 : Nat), ∃ (k23 : Nat), w19.cell? (Addr.mk sB (sO + 2) none) = some (Value.slice p21 k22 k23) ∧ Value.slice p21 k22 k23 = Value.slice p16 k17 k18) ∧ ∃ (p24 : Option Addr), ∃
  (k25 : Nat), ∃ (k26 : Nat), (∀ (w27 : World) (R28 : List Own), Ctx W w27 (R0 ++ R28) Φ1 → ∃ (p29 : Option Addr), ∃ (k30 : Nat), ∃ (k31 : Nat), w27.cell? (Addr.mk sB (sO + 3) none) = some
  (Value.slice p29 k30 k31) ∧ Value.slice p29 k30 k31 = Value.slice p24 k25 k26) ∧ ∃ (n32 : Int), (∀ (w33 : World) (R34 : List Own), Ctx W w33 (R0 ++ R34) Φ1 → ∃ (n35 : Int), w33.cell?
  (Addr.mk sB (sO + 4) none) = some (Value.int IntKind.i64 n35) ∧ Value.int IntKind.i64 n35 = Value.int IntKind.i64 n32) ∧ ∃ (p36 : Option Addr), ∃ (k37 : Nat), ∃ (k38 : Nat), (∀ (w39 :
  World) (R40 : List Own), Ctx W w39 (R0 ++ R40) Φ1 → ∃ (p41 : Option Addr), ∃ (k42 : Nat), ∃ (k43 : Nat), w39.cell? (Addr.mk sB (sO + 5) none) = some (Value.slice p41 k42 k43) ∧ Value.slice
  p41 k42 k43 = Value.slice p36 k37 k38) ∧ ∀ (w44 : World) (R45 : List Own), Ctx W w44 (R ++ R45) Φ → Calls Tryz.prog F.errataref01_Int #[Value.int IntKind.i64 n4] w44 fun (e46 : Ending) (w47
  : World) => ∃ (s48 : ByteArray), e46 = Ending.returned (Value.string s48) ∧ ∃ (R49 : List Own), ∃ (Φ50 : PW), Stable Φ50 ∧ Ctx W w47 (R49 ++ R45) Φ50 ∧ (∀ (w51 : World) (R52 : List Own),
  Ctx W w51 (R49 ++ R52) Φ50 → Ctx W w51 (R0 ++ R52) Φ1) ∧ ∀ (w53 : World) (R54 : List Own), Ctx W w53 (R49 ++ R54) Φ50 → Calls Tryz.prog F.errataref01_Nums #[Value.slice p8 k9 k10] w53 fun
  (e55 : Ending) (w56 : World) => ∃ (s57 : ByteArray), e55 = Ending.returned (Value.string s57) ∧ ∃ (R58 : List Own), ∃ (Φ59 : PW), Stable Φ59 ∧ Ctx W w56 (R58 ++ R54) Φ59 ∧ (∀ (w60 : World)
  (R61 : List Own), Ctx W w60 (R58 ++ R61) Φ59 → Ctx W w60 (R0 ++ R61) Φ1) ∧ (s48.size + s57.size).le 9223372036854775807 ∧ ∀ (w62 : World) (R63 : List Own), Ctx W w62 (R58 ++ R63) Φ59 →
  Calls Tryz.prog F.errataref01_Nums #[Value.slice p16 k17 k18] w62 fun (e64 : Ending) (w65 : World) => ∃ (s66 : ByteArray), e64 = Ending.returned (Value.string s66) ∧ ∃ (R67 : List Own), ∃
  (Φ68 : PW), Stable Φ68 ∧ Ctx W w65 (R67 ++ R63) Φ68 ∧ (∀ (w69 : World) (R70 : List Own), Ctx W w69 (R67 ++ R70) Φ68 → Ctx W w69 (R0 ++ R70) Φ1) ∧ ((s48 ++ s57).size + s66.size).le
  9223372036854775807 ∧ ∀ (w71 : World) (R72 : List Own), Ctx W w71 (R67 ++ R72) Φ68 → Calls Tryz.prog F.errataref43_lines #[Value.slice p24 k25 k26] w71 fun (e73 : Ending) (w74 : World) => ∃
  (s75 : ByteArray), e73 = Ending.returned (Value.string s75) ∧ ∃ (R76 : List Own), ∃ (Φ77 : PW), Stable Φ77 ∧ Ctx W w74 (R76 ++ R72) Φ77 ∧ (∀ (w78 : World) (R79 : List Own), Ctx W w78 (R76
  ++ R79) Φ77 → Ctx W w78 (R0 ++ R79) Φ1) ∧ ((s48 ++ s57 ++ s66).size + s75.size).le 9223372036854775807 ∧ ∀ (w80 : World) (R81 : List Own), Ctx W w80 (R76 ++ R81) Φ77 → Calls Tryz.prog
  F.errataref01_Int #[Value.int IntKind.i64 n32] w80 fun (e82 : Ending) (w83 : World) => ∃ (s84 : ByteArray), e82 = Ending.returned (Value.string s84) ∧ ∃ (R85 : List Own), ∃ (Φ86 : PW),
  Stable Φ86 ∧ Ctx W w83 (R85 ++ R81) Φ86 ∧ (∀ (w87 : World) (R88 : List Own), Ctx W w87 (R85 ++ R88) Φ86 → Ctx W w87 (R0 ++ R88) Φ1) ∧ ((s48 ++ s57 ++ s66 ++ s75).size + s84.size).le
  9223372036854775807 ∧ ∀ (w89 : World) (R90 : List Own), Ctx W w89 (R85 ++ R90) Φ86 → Calls Tryz.prog F.errataref43_lines #[Value.slice p36 k37 k38] w89 fun (e91 : Ending) (w92 : World) => ∃
  (s93 : ByteArray), e91 = Ending.returned (Value.string s93) ∧ ∃ (R94 : List Own), ∃ (Φ95 : PW), Stable Φ95 ∧ Ctx W w92 (R94 ++ R90) Φ95 ∧ (∀ (w96 : World) (R97 : List Own), Ctx W w96 (R94
  ++ R97) Φ95 → Ctx W w96 (R0 ++ R97) Φ1) ∧ ((s48 ++ s57 ++ s66 ++ s75 ++ s84).size + s93.size).le 9223372036854775807 ∧ ∀ (w98 : World) (R99 : List Own), Ctx W w98 (R94 ++ R99) Φ95 → J
  (Value.string (s48 ++ s57 ++ s66 ++ s75 ++ s84 ++ s93)) w98

theorem Berrataref43_Sink_Bytes_run (sB sO : Nat) {W w : World} {R : List Own} {Φ : PW} [Stable Φ] {J : Value → World → Prop} (c : Ctx W w R Φ) (h : Berrataref43_Sink_Bytes sB sO W R Φ J) : Calls Tryz.prog F.errataref43_Sink_Bytes #[.pointer (some ⟨sB, sO, none⟩)] w fun e w' => ∃ v, e = .returned v ∧ J v w' :=
  vcFS_sound (H := { keep := some [0, 2], stages := [(1, [.held [(0, true), (5, true), (11, true), (17, true), (23, true), (29, true), (1, true), (6, true), (12, true), (18, true), (24, true), (30, true), (2, true), (7, true), (13, true), (19, true), (25, true), (31, true), (3, true), (8, true), (14, true), (20, true), (26, true), (32, true), (4, false), (9, false), (10, true), (15, false), (16, true), (21, false), (22, true), (27, false), (28, true), (33, false)], .stage [34, 35] none])] }) (by rw [show vcFS Tryz.prog W { keep := some [0, 2], stages := [(1, [.held [(0, true), (5, true), (11, true), (17, true), (23, true), (29, true), (1, true), (6, true), (12, true), (18, true), (24, true), (30, true), (2, true), (7, true), (13, true), (19, true), (25, true), (31, true), (3, true), (8, true), (14, true), (20, true), (26, true), (32, true), (4, false), (9, false), (10, true), (15, false), (16, true), (21, false), (22, true), (27, false), (28, true), (33, false)], .stage [34, 35] none])] } F.errataref43_Sink_Bytes #[.pointer (some ⟨sB, sO, none⟩)] R Φ J = Berrataref43_Sink_Bytes sB sO W R Φ J by kernel_rfl]; exact h) c

/-- errataref01.Open -/
def Berrataref01_Open (s : ByteArray) (W : World) (R : List Own) (Φ : PW) (J : Value → World → Prop) : Prop :=
  ∀ (k0 : Nat) (w1 : World) (R2 : List Own), Ctx W w1 (Own.blk k0 [Value.string s, Value.bool false] 104 :: R ++ R2) Φ → J (Value.pointer (some (Addr.mk k0 0 none))) w1

theorem Berrataref01_Open_run (s : ByteArray) {W w : World} {R : List Own} {Φ : PW} [Stable Φ] {J : Value → World → Prop} (c : Ctx W w R Φ) (h : Berrataref01_Open s W R Φ J) : Calls Tryz.prog F.errataref01_Open #[.string s] w fun e w' => ∃ v, e = .returned v ∧ J v w' :=
  vcFS_sound (H := { keep := some [0, 2] }) (by rw [show vcFS Tryz.prog W { keep := some [0, 2] } F.errataref01_Open #[.string s] R Φ J = Berrataref01_Open s W R Φ J by kernel_rfl]; exact h) c

/-- (*errataref01.Reader).Int -/
def Berrataref01_Reader_Int (rB rO : Nat) (W : World) (R : List Own) (Φ : PW) (J : Value → World → Prop) : Prop :=
  ∀ (w0 : World) (R1 : List Own), Ctx W w0 (R ++ R1) Φ → Calls Tryz.prog F.errataref01_Reader_ahead #[Value.pointer (some (Addr.mk rB rO none)), Value.int IntKind.u8 59] w0 fun (e2 : Ending)
  (w3 : World) => ∃ (n4 : Int), e2 = Ending.returned (Value.int IntKind.i64 n4) ∧ ∃ (R5 : List Own), ∃ (Φ6 : PW), Stable Φ6 ∧ Ctx W w3 (R5 ++ R1) Φ6 ∧ ∀ (w7 : World) (R8 : List Own), Ctx W w7
  (R5 ++ R8) Φ6 → J (Value.int IntKind.i64 n4) w7

theorem Berrataref01_Reader_Int_run (rB rO : Nat) {W w : World} {R : List Own} {Φ : PW} [Stable Φ] {J : Value → World → Prop} (c : Ctx W w R Φ) (h : Berrataref01_Reader_Int rB rO W R Φ J) : Calls Tryz.prog F.errataref01_Reader_Int #[.pointer (some ⟨rB, rO, none⟩)] w fun e w' => ∃ v, e = .returned v ∧ J v w' :=
  vcFS_sound (H := { keep := some [0, 2] }) (by rw [show vcFS Tryz.prog W { keep := some [0, 2] } F.errataref01_Reader_Int #[.pointer (some ⟨rB, rO, none⟩)] R Φ J = Berrataref01_Reader_Int rB rO W R Φ J by kernel_rfl]; exact h) c

/-- (*errataref01.Reader).Nums -/
-- loop at region 4: 4 out, 5 i; blocks 
def Berrataref01_Reader_Nums (rB rO : Nat) (W : World) (R : List Own) (Φ : PW) (J : Value → World → Prop) : Prop :=
  ∀ (w0 : World) (R1 : List Own), Ctx W w0 (R ++ R1) Φ → Calls Tryz.prog F.errataref01_Reader_number #[Value.pointer (some (Addr.mk rB rO none)), Value.int IntKind.u8 91] w0 fun (e2 : Ending)
  (w3 : World) => ∃ (n4 : Int), e2 = Ending.returned (Value.int IntKind.i64 n4) ∧ ∃ (R5 : List Own), ∃ (Φ6 : PW), Stable Φ6 ∧ Ctx W w3 (R5 ++ R1) Φ6 ∧ exI fun (I7 : Option Addr → Nat → Nat →
  Int → List Own → PW → Nat → Prop) => (∃ (R8 : List Own), ∃ (Φ9 : PW), ∃ (k10 : Nat), Stable Φ9 ∧ (∀ (w11 : World) (R12 : List Own), Ctx W w11 (R5 ++ R12) Φ6 → Ctx W w11 (R8 ++ R12) Φ9) ∧ I7
  none 0 0 0 R8 Φ9 k10) ∧ ∀ (p13 : Option Addr) (k14 k15 : Nat) (n16 : Int) (R17 : List Own) (I18 : List Nat → World → Prop) (k19 : Nat), Stable I18 → I7 p13 k14 k15 n16 R17 I18 k19 → ∀ (w20
  : World) (R21 : List Own), Ctx W w20 (R17 ++ R21) I18 → ∃ (c22 : Bool), (decide (n16 < n4) = true → w20.cell? (Addr.mk rB (rO + 1) none) = some (Value.bool c22)) ∧ Br (decide (n16 < n4) &&
  !c22) (∀ (w23 : World) (R24 : List Own), Ctx W w23 (R17 ++ R24) I18 → Calls Tryz.prog F.errataref01_Reader_Int #[Value.pointer (some (Addr.mk rB rO none))] w23 fun (e25 : Ending) (w26 :
  World) => ∃ (n27 : Int), e25 = Ending.returned (Value.int IntKind.i64 n27) ∧ ∃ (R28 : List Own), ∃ (Φ29 : PW), Stable Φ29 ∧ Ctx W w26 (R28 ++ R24) Φ29 ∧ ∀ (k30 : Nat) (w31 : World) (R32 :
  List Own), Ctx W w31 (Own.blk k30 [Value.int IntKind.i64 n27] 3 :: R28 ++ R32) Φ29 → ∃ (p33 : Option Addr), ∃ (k34 : Nat), ∃ (k35 : Nat), ∃ (w36 : World), Sem.run Tryz.prog (builtin
  Builtin.append #[50, 50] 50 #[false, false] #[Value.slice p13 k14 k15, Value.slice (some (Addr.mk k30 0 none)) 1 1]) w31 = Result.ok (Next.value (Value.slice p33 k34 k35)) w36 ∧ ∃ (R37 :
  List Own), ∃ (Φ38 : PW), Stable Φ38 ∧ Ctx W w36 (R37 ++ R32) Φ38 ∧ I64 (n16 + 1) ∧ ∃ (R39 : List Own), ∃ (Φ40 : PW), ∃ (k41 : Nat), Stable Φ40 ∧ (∀ (w42 : World) (R43 : List Own), Ctx W w42
  (R37 ++ R43) Φ38 → Ctx W w42 (R39 ++ R43) Φ40) ∧ I7 p33 k34 k35 (n16 + 1) R39 Φ40 k41 ∧ k41 < k19) (∀ (w44 : World) (R45 : List Own), Ctx W w44 (R17 ++ R45) I18 → ∃ (c46 : Bool), w44.cell?
  (Addr.mk rB (rO + 1) none) = some (Value.bool c46) ∧ Br c46 (∀ (w47 : World) (R48 : List Own), Ctx W w47 (R17 ++ R48) I18 → J (Value.slice none 0 0) w47) (∀ (w49 : World) (R50 : List Own),
  Ctx W w49 (R17 ++ R50) I18 → Calls Tryz.prog F.errataref01_Reader_close #[Value.pointer (some (Addr.mk rB rO none)), Value.int IntKind.u8 93] w49 fun (e51 : Ending) (w52 : World) => ∃ (c53
  : Bool), e51 = Ending.returned (Value.bool c53) ∧ ∃ (R54 : List Own), ∃ (Φ55 : PW), Stable Φ55 ∧ Ctx W w52 (R54 ++ R50) Φ55 ∧ Br (!c53) (∀ (w56 : World) (R57 : List Own), Ctx W w56 (R54 ++
  R57) Φ55 → J (Value.slice none 0 0) w56) (∀ (w58 : World) (R59 : List Own), Ctx W w58 (R54 ++ R59) Φ55 → J (Value.slice p13 k14 k15) w58)))

theorem Berrataref01_Reader_Nums_run (rB rO : Nat) {W w : World} {R : List Own} {Φ : PW} [Stable Φ] {J : Value → World → Prop} (c : Ctx W w R Φ) (h : Berrataref01_Reader_Nums rB rO W R Φ J) : Calls Tryz.prog F.errataref01_Reader_Nums #[.pointer (some ⟨rB, rO, none⟩)] w fun e w' => ∃ v, e = .returned v ∧ J v w' :=
  vcFS_sound (H := { keep := some [0, 2, 3, 4, 5, 17, 33], split := [7], loops := [(4, [(4, .one (.slice)), (5, .one (.int .i64))], [])] }) (by rw [show vcFS Tryz.prog W { keep := some [0, 2, 3, 4, 5, 17, 33], split := [7], loops := [(4, [(4, .one (.slice)), (5, .one (.int .i64))], [])] } F.errataref01_Reader_Nums #[.pointer (some ⟨rB, rO, none⟩)] R Φ J = Berrataref01_Reader_Nums rB rO W R Φ J by kernel_rfl]; exact h) c

/-- (*errataref01.Reader).Num -/
def Berrataref01_Reader_Num (rB rO : Nat) (W : World) (R : List Own) (Φ : PW) (J : Value → World → Prop) : Prop :=
  ∀ (w0 : World) (R1 : List Own), Ctx W w0 (R ++ R1) Φ → Calls Tryz.prog F.errataref01_Reader_number #[Value.pointer (some (Addr.mk rB rO none)), Value.int IntKind.u8 59] w0 fun (e2 : Ending)
  (w3 : World) => ∃ (n4 : Int), e2 = Ending.returned (Value.int IntKind.i64 n4) ∧ ∃ (R5 : List Own), ∃ (Φ6 : PW), Stable Φ6 ∧ Ctx W w3 (R5 ++ R1) Φ6 ∧ ∀ (w7 : World) (R8 : List Own), Ctx W w7
  (R5 ++ R8) Φ6 → J (Value.int IntKind.i64 n4) w7

theorem Berrataref01_Reader_Num_run (rB rO : Nat) {W w : World} {R : List Own} {Φ : PW} [Stable Φ] {J : Value → World → Prop} (c : Ctx W w R Φ) (h : Berrataref01_Reader_Num rB rO W R Φ J) : Calls Tryz.prog F.errataref01_Reader_Num #[.pointer (some ⟨rB, rO, none⟩)] w fun e w' => ∃ v, e = .returned v ∧ J v w' :=
  vcFS_sound (H := { keep := some [0, 2] }) (by rw [show vcFS Tryz.prog W { keep := some [0, 2] } F.errataref01_Reader_Num #[.pointer (some ⟨rB, rO, none⟩)] R Φ J = Berrataref01_Reader_Num rB rO W R Φ J by kernel_rfl]; exact h) c

/-- (*errataref01.Reader).Left -/
def Berrataref01_Reader_Left (rB rO : Nat) (W : World) (R : List Own) (Φ : PW) (J : Value → World → Prop) : Prop :=
  ∀ (w0 : World) (R1 : List Own), Ctx W w0 (R ++ R1) Φ → ∃ (s2 : ByteArray), w0.cell? (Addr.mk rB rO none) = some (Value.string s2) ∧ ∀ (w3 : World) (R4 : List Own), Ctx W w3 (R ++ R4) Φ → J
  (Value.int IntKind.i64 (↑s2.size : Int)) w3

theorem Berrataref01_Reader_Left_run (rB rO : Nat) {W w : World} {R : List Own} {Φ : PW} [Stable Φ] {J : Value → World → Prop} (c : Ctx W w R Φ) (h : Berrataref01_Reader_Left rB rO W R Φ J) : Calls Tryz.prog F.errataref01_Reader_Left #[.pointer (some ⟨rB, rO, none⟩)] w fun e w' => ∃ v, e = .returned v ∧ J v w' :=
  vcFS_sound (H := { keep := some [0, 2] }) (by rw [show vcFS Tryz.prog W { keep := some [0, 2] } F.errataref01_Reader_Left #[.pointer (some ⟨rB, rO, none⟩)] R Φ J = Berrataref01_Reader_Left rB rO W R Φ J by kernel_rfl]; exact h) c

/-- errataref03.ReadRow -/
-- loop at region 5: 6 out, 7 i; blocks 
-- known blocks: 8 v
def Berrataref03_ReadRow (s : ByteArray) (W : World) (R : List Own) (Φ : PW) (J : Value → World → Prop) : Prop :=
  ∀ (w0 : World) (R1 : List Own), Ctx W w0 (R ++ R1) Φ → Calls Tryz.prog F.errataref01_Open #[Value.string s] w0 fun (e2 : Ending) (w3 : World) => ∃ (p4 : Option Addr), e2 = Ending.returned
  (Value.pointer p4) ∧ ∃ (R5 : List Own), ∃ (Φ6 : PW), Stable Φ6 ∧ Ctx W w3 (R5 ++ R1) Φ6 ∧ ∀ (w7 : World) (R8 : List Own), Ctx W w7 (R5 ++ R8) Φ6 → Calls Tryz.prog F.errataref01_Reader_Num
  #[Value.pointer p4] w7 fun (e9 : Ending) (w10 : World) => ∃ (n11 : Int), e9 = Ending.returned (Value.int IntKind.i64 n11) ∧ ∃ (R12 : List Own), ∃ (Φ13 : PW), Stable Φ13 ∧ Ctx W w10 (R12 ++
  R8) Φ13 ∧ exI fun (I14 : Option Addr → Nat → Nat → Int → List Own → PW → Nat → Prop) => (∃ (R15 : List Own), ∃ (Φ16 : PW), ∃ (k17 : Nat), Stable Φ16 ∧ (∀ (w18 : World) (R19 : List Own), Ctx
  W w18 (R12 ++ R19) Φ13 → Ctx W w18 (R15 ++ R19) Φ16) ∧ I14 none 0 0 0 R15 Φ16 k17) ∧ ∀ (p20 : Option Addr) (k21 k22 : Nat) (n23 : Int) (R24 : List Own) (I25 : List Nat → World → Prop) (k26
  : Nat), Stable I25 → I14 p20 k21 k22 n23 R24 I25 k26 → ∀ (w27 : World) (R28 : List Own), Ctx W w27 (R24 ++ R28) I25 → Br (decide (n23 < n11) && decide (n23 < (↑s.size : Int))) (∀ (b : Nat)
  (w29 : World) (R30 : List Own), Ctx W w29 (R24 ++ R30) I25 → Calls Tryz.prog F.errataref01_Reader_Int #[Value.pointer p4] w29 fun (e31 : Ending) (w32 : World) => ∃ (n33 : Int), e31 =
  Ending.returned (Value.int IntKind.i64 n33) ∧ ∃ (R34 : List Own), ∃ (Φ35 : PW), Stable Φ35 ∧ Ctx W w32 (R34 ++ R30) Φ35 ∧ ∀ (w36 : World) (R37 : List Own), Ctx W w36 (R34 ++ R37) Φ35 →
  Calls Tryz.prog F.errataref01_Reader_Int #[Value.pointer p4] w36 fun (e38 : Ending) (w39 : World) => ∃ (n40 : Int), e38 = Ending.returned (Value.int IntKind.i64 n40) ∧ ∃ (R41 : List Own), ∃
  (Φ42 : PW), Stable Φ42 ∧ Ctx W w39 (R41 ++ R37) Φ42 ∧ ∀ (w43 : World) (R44 : List Own), Ctx W w43 (R41 ++ R44) Φ42 → Calls Tryz.prog F.errataref01_Reader_Text #[Value.pointer p4] w43 fun
  (e45 : Ending) (w46 : World) => ∃ (s47 : ByteArray), e45 = Ending.returned (Value.string s47) ∧ ∃ (R48 : List Own), ∃ (Φ49 : PW), Stable Φ49 ∧ Ctx W w46 (R48 ++ R44) Φ49 ∧ ∀ (k50 : Nat)
  (w51 : World) (R52 : List Own), Ctx W w51 (Own.blk k50 [Value.int IntKind.i64 n33, Value.int IntKind.i64 n40, Value.string s47] 94 :: R48 ++ R52) Φ49 → ∃ (p53 : Option Addr), ∃ (k54 : Nat),
  ∃ (k55 : Nat), ∃ (w56 : World), Sem.run Tryz.prog (builtin Builtin.append #[44, 44] 44 #[false, false] #[Value.slice p20 k21 k22, Value.slice (some (Addr.mk k50 0 none)) 1 1]) w51 =
  Result.ok (Next.value (Value.slice p53 k54 k55)) w56 ∧ ∃ (R57 : List Own), ∃ (Φ58 : PW), Stable Φ58 ∧ Ctx W w56 (R57 ++ R52) Φ58 ∧ I64 (n23 + 1) ∧ ∃ (R59 : List Own), ∃ (Φ60 : PW), ∃ (k61 :
  Nat), Stable Φ60 ∧ (∀ (w62 : World) (R63 : List Own), Ctx W w62 (R57 ++ R63) Φ58 → Ctx W w62 (R59 ++ R63) Φ60) ∧ I14 p53 k54 k55 (n23 + 1) R59 Φ60 k61 ∧ k61 < k26) (∀ (w64 : World) (R65 :
  List Own), Ctx W w64 (R24 ++ R65) I25 → Calls Tryz.prog F.errataref01_Reader_Done #[Value.pointer p4] w64 fun (e66 : Ending) (w67 : World) => ∃ (c68 : Bool), e66 = Ending.returned
  (Value.bool c68) ∧ ∃ (R69 : List Own), ∃ (Φ70 : PW), Stable Φ70 ∧ Ctx W w67 (R69 ++ R65) Φ70 ∧ Br (!c68) (∀ (w71 : World) (R72 : List Own), Ctx W w71 (R69 ++ R72) Φ70 → J (Value.tuple
  #[Value.slice none 0 0, Value.bool false]) w71) (Br (decide ((↑k21 : Int) ≠ n11)) (∀ (w73 : World) (R74 : List Own), Ctx W w73 (R69 ++ R74) Φ70 → J (Value.tuple #[Value.slice none 0 0,
  Value.bool false]) w73) (∀ (w75 : World) (R76 : List Own), Ctx W w75 (R69 ++ R76) Φ70 → J (Value.tuple #[Value.slice p20 k21 k22, Value.bool true]) w75)))

theorem Berrataref03_ReadRow_run (s : ByteArray) {W w : World} {R : List Own} {Φ : PW} [Stable Φ] {J : Value → World → Prop} (c : Ctx W w R Φ) (h : Berrataref03_ReadRow s W R Φ J) : Calls Tryz.prog F.errataref03_ReadRow #[.string s] w fun e w' => ∃ v, e = .returned v ∧ J v w' :=
  vcFS_sound (H := { keep := some [0, 2, 3, 4, 5, 6, 7, 8, 21, 46], track := [8], split := [12], loops := [(5, [(6, .one (.slice)), (7, .one (.int .i64))], [])] }) (by rw [show vcFS Tryz.prog W { keep := some [0, 2, 3, 4, 5, 6, 7, 8, 21, 46], track := [8], split := [12], loops := [(5, [(6, .one (.slice)), (7, .one (.int .i64))], [])] } F.errataref03_ReadRow #[.string s] R Φ J = Berrataref03_ReadRow s W R Φ J by kernel_rfl]; exact h) c

/-- (*errataref01.Reader).Text -/
def Berrataref01_Reader_Text (rB rO : Nat) (W : World) (R : List Own) (Φ : PW) (J : Value → World → Prop) : Prop :=
  ∀ (w0 : World) (R1 : List Own), Ctx W w0 (R ++ R1) Φ → Calls Tryz.prog F.errataref01_Reader_number #[Value.pointer (some (Addr.mk rB rO none)), Value.int IntKind.u8 58] w0 fun (e2 : Ending)
  (w3 : World) => ∃ (n4 : Int), e2 = Ending.returned (Value.int IntKind.i64 n4) ∧ ∃ (R5 : List Own), ∃ (Φ6 : PW), Stable Φ6 ∧ Ctx W w3 (R5 ++ R1) Φ6 ∧ ∀ (w7 : World) (R8 : List Own), Ctx W w7
  (R5 ++ R8) Φ6 → ∃ (c9 : Bool), w7.cell? (Addr.mk rB (rO + 1) none) = some (Value.bool c9) ∧ ∃ (s10 : ByteArray), ((!c9) = true → w7.cell? (Addr.mk rB rO none) = some (Value.string s10)) ∧
  Br (c9 || decide ((↑s10.size : Int) ≤ n4)) (∀ (w11 : World) (R12 : List Own), Ctx W w11 (R5 ++ R12) Φ6 → Calls Tryz.prog F.errataref01_Reader_fail #[Value.pointer (some (Addr.mk rB rO
  none))] w11 fun (e13 : Ending) (w14 : World) => ∃ (n15 : Int), e13 = Ending.returned (Value.int IntKind.i64 n15) ∧ ∃ (R16 : List Own), ∃ (Φ17 : PW), Stable Φ17 ∧ Ctx W w14 (R16 ++ R12) Φ17
  ∧ ∀ (w18 : World) (R19 : List Own), Ctx W w18 (R16 ++ R19) Φ17 → J (Value.string (ByteArray.mk #[])) w18) (∀ (w20 : World) (R21 : List Own), Ctx W w20 (R5 ++ R21) Φ6 → ∃ (s22 : ByteArray),
  w20.cell? (Addr.mk rB rO none) = some (Value.string s22) ∧ (0 ≤ n4 ∧ n4 ≤ (↑s22.size : Int)) ∧ ∀ (w23 : World) (R24 : List Own), Ctx W w23 (R5 ++ R24) Φ6 → ∃ (s25 : ByteArray), w23.cell?
  (Addr.mk rB rO none) = some (Value.string s25) ∧ (0 ≤ n4 ∧ n4 ≤ (↑s25.size : Int) ∧ s25.size ≤ s25.size) ∧ ∀ (w26 : World) (R27 : List Own), Ctx W w26 (R5 ++ R27) Φ6 → CanWrite w26 rB rO 1
  ∧ ∀ (w28 : World), w28 = w26.setCell (Addr.mk rB rO none) (Value.string (s25.extract n4.toNat s25.size)) → ∃ (R29 : List Own), ∃ (Φ30 : PW), Stable Φ30 ∧ Ctx W w28 (R29 ++ R27) Φ30 ∧ ∀ (w31
  : World) (R32 : List Own), Ctx W w31 (R29 ++ R32) Φ30 → Calls Tryz.prog F.errataref01_Reader_close #[Value.pointer (some (Addr.mk rB rO none)), Value.int IntKind.u8 44] w31 fun (e33 :
  Ending) (w34 : World) => ∃ (c35 : Bool), e33 = Ending.returned (Value.bool c35) ∧ ∃ (R36 : List Own), ∃ (Φ37 : PW), Stable Φ37 ∧ Ctx W w34 (R36 ++ R32) Φ37 ∧ Br (!c35) (∀ (w38 : World) (R39
  : List Own), Ctx W w38 (R36 ++ R39) Φ37 → J (Value.string (ByteArray.mk #[])) w38) (∀ (w40 : World) (R41 : List Own), Ctx W w40 (R36 ++ R41) Φ37 → J (Value.string (s22.extract 0 n4.toNat))
  w40))

theorem Berrataref01_Reader_Text_run (rB rO : Nat) {W w : World} {R : List Own} {Φ : PW} [Stable Φ] {J : Value → World → Prop} (c : Ctx W w R Φ) (h : Berrataref01_Reader_Text rB rO W R Φ J) : Calls Tryz.prog F.errataref01_Reader_Text #[.pointer (some ⟨rB, rO, none⟩)] w fun e w' => ∃ v, e = .returned v ∧ J v w' :=
  vcFS_sound (H := { keep := some [0, 2, 3, 4, 19, 39] }) (by rw [show vcFS Tryz.prog W { keep := some [0, 2, 3, 4, 19, 39] } F.errataref01_Reader_Text #[.pointer (some ⟨rB, rO, none⟩)] R Φ J = Berrataref01_Reader_Text rB rO W R Φ J by kernel_rfl]; exact h) c

/-- (*errataref01.Reader).Done -/
def Berrataref01_Reader_Done (rB rO : Nat) (W : World) (R : List Own) (Φ : PW) (J : Value → World → Prop) : Prop :=
  ∀ (w0 : World) (R1 : List Own), Ctx W w0 (R ++ R1) Φ → ∃ (c2 : Bool), w0.cell? (Addr.mk rB (rO + 1) none) = some (Value.bool c2) ∧ ∃ (s3 : ByteArray), ((!c2) = true → w0.cell? (Addr.mk rB
  rO none) = some (Value.string s3)) ∧ ∀ (w4 : World) (R5 : List Own), Ctx W w4 (R ++ R5) Φ → J (Value.bool (!c2 && decide (s3 = ByteArray.mk #[]))) w4

theorem Berrataref01_Reader_Done_run (rB rO : Nat) {W w : World} {R : List Own} {Φ : PW} [Stable Φ] {J : Value → World → Prop} (c : Ctx W w R Φ) (h : Berrataref01_Reader_Done rB rO W R Φ J) : Calls Tryz.prog F.errataref01_Reader_Done #[.pointer (some ⟨rB, rO, none⟩)] w fun e w' => ∃ v, e = .returned v ∧ J v w' :=
  vcFS_sound (H := { keep := some [0, 2] }) (by rw [show vcFS Tryz.prog W { keep := some [0, 2] } F.errataref01_Reader_Done #[.pointer (some ⟨rB, rO, none⟩)] R Φ J = Berrataref01_Reader_Done rB rO W R Φ J by kernel_rfl]; exact h) c

/-- (*errataref43.Sink).look -/
-- loop at region 15: 10 i; blocks 
-- loop at region 10: 9 k; blocks 
-- loop at region 4: 7 i; blocks 
-- known blocks: 8 x
def Berrataref43_Sink_look (sB sO : Nat) (batch : Int) (linesP : Option Addr) (linesN linesC : Nat) (W : World) (R : List Own) (Φ : PW) (J : Value → World → Prop) : Prop :=
  Br (decide (batch < 1)) (∀ (w0 : World) (R1 : List Own), Ctx W w0 (R ++ R1) Φ → J (Value.int IntKind.i64 25) w0) (∀ (w2 : World) (R3 : List Own), Ctx W w2 (R ++ R3) Φ → Calls Tryz.prog
  F.errataref43_Sink_Last #[Value.pointer (some (Addr.mk sB sO none))] w2 fun (e4 : Ending) (w5 : World) => ∃ (n6 : Int), e4 = Ending.returned (Value.int IntKind.i64 n6) ∧ ∃ (R7 : List Own),
  ∃ (Φ8 : PW), Stable Φ8 ∧ Ctx W w5 (R7 ++ R3) Φ8 ∧ Br (decide (batch ≤ n6)) (∀ (w9 : World) (R10 : List Own), Ctx W w9 (R7 ++ R10) Φ8 → J (Value.int IntKind.i64 25) w9) (exI fun (I11 : Int →
  List Own → PW → Nat → Prop) => (∃ (R12 : List Own), ∃ (Φ13 : PW), ∃ (k14 : Nat), Stable Φ13 ∧ (∀ (w15 : World) (R16 : List Own), Ctx W w15 (R7 ++ R16) Φ8 → Ctx W w15 (R12 ++ R16) Φ13) ∧ I11
  0 R12 Φ13 k14) ∧ ∀ (n17 : Int) (R18 : List Own) (I19 : List Nat → World → Prop) (k20 : Nat), Stable I19 → I11 n17 R18 I19 k20 → Br (decide (n17 < (↑linesN : Int))) ((0 ≤ n17 ∧ n17 <
  (↑linesN : Int)) ∧ ptrK none linesP fun (k21 k22 : Nat) => ∀ (w23 : World) (R24 : List Own), Ctx W w23 (R18 ++ R24) I19 → ∃ (n25 : Int), ∃ (n26 : Int), ∃ (n27 : Int), ∃ (p28 : Option Addr),
  ∃ (k29 : Nat), ∃ (k30 : Nat), ∃ (n31 : Int), ∃ (n32 : Int), ∃ (n33 : Int), RowAt w23 k21 (k22 + n17.toNat * 7) [Value.int IntKind.i64 n25, Value.int IntKind.i64 n26, Value.int IntKind.i64
  n27, Value.slice p28 k29 k30, Value.int IntKind.i64 n31, Value.int IntKind.i64 n32, Value.int IntKind.i64 n33] ∧ ∀ (b : Nat), Br (decide (n26 ≠ batch)) (∀ (w34 : World) (R35 : List Own),
  Ctx W w34 (R18 ++ R35) I19 → J (Value.int IntKind.i64 1) w34) (Br (decide (n31 = 0)) (∀ (w36 : World) (R37 : List Own), Ctx W w36 (R18 ++ R37) I19 → J (Value.int IntKind.i64 1) w36) (∀ (w38
  : World) (R39 : List Own), Ctx W w38 (R18 ++ R39) I19 → Calls Tryz.prog F.errataref03_RightRow #[Value.slice p28 k29 k30] w38 fun (e40 : Ending) (w41 : World) => ∃ (c42 : Bool), e40 =
  Ending.returned (Value.bool c42) ∧ ∃ (R43 : List Own), ∃ (Φ44 : PW), Stable Φ44 ∧ Ctx W w41 (R43 ++ R39) Φ44 ∧ Br (!c42) (∀ (w45 : World) (R46 : List Own), Ctx W w45 (R43 ++ R46) Φ44 → J
  (Value.int IntKind.i64 1) w45) (exI fun (I47 : Int → List Own → PW → Nat → Prop) => (∃ (R48 : List Own), ∃ (Φ49 : PW), ∃ (k50 : Nat), Stable Φ49 ∧ (∀ (w51 : World) (R52 : List Own), Ctx W
  w51 (R43 ++ R52) Φ44 → Ctx W w51 (R48 ++ R52) Φ49) ∧ I47 0 R48 Φ49 k50) ∧ ∀ (n53 : Int) (R54 : List Own) (I55 : List Nat → World → Prop) (k56 : Nat), Stable I55 → I47 n53 R54 I55 k56 → ∀
  (w57 : World) (R58 : List Own), Ctx W w57 (R54 ++ R58) I55 → ∃ (p59 : Option Addr), ∃ (k60 : Nat), ∃ (k61 : Nat), w57.cell? (Addr.mk sB (sO + 1) none) = some (Value.slice p59 k60 k61) ∧ Br
  (decide (n53 < (↑k60 : Int))) (∀ (w62 : World) (R63 : List Own), Ctx W w62 (R54 ++ R63) I55 → ∃ (p64 : Option Addr), ∃ (k65 : Nat), ∃ (k66 : Nat), w62.cell? (Addr.mk sB (sO + 1) none) =
  some (Value.slice p64 k65 k66) ∧ (0 ≤ n53 ∧ n53 < (↑k65 : Int)) ∧ ptrK none p64 fun (k67 k68 : Nat) => ∃ (n69 : Int), w62.cell? (Addr.mk k67 (k68 + n53.toNat) none) = some (Value.int
  IntKind.i64 n69) ∧ Br (decide ((↑k29 : Int) ≤ n69)) (∀ (w70 : World) (R71 : List Own), Ctx W w70 (R54 ++ R71) I55 → J (Value.int IntKind.i64 1) w70) (I64 (n53 + 1) ∧ ∃ (R72 : List Own), ∃
  (Φ73 : PW), ∃ (k74 : Nat), Stable Φ73 ∧ (∀ (w75 : World) (R76 : List Own), Ctx W w75 (R54 ++ R76) I55 → Ctx W w75 (R72 ++ R76) Φ73) ∧ I47 (n53 + 1) R72 Φ73 k74 ∧ k74 < k56)) (I64 (n17 + 1)
  ∧ ∃ (R77 : List Own), ∃ (Φ78 : PW), ∃ (k79 : Nat), Stable Φ78 ∧ (∀ (w80 : World) (R81 : List Own), Ctx W w80 (R54 ++ R81) I55 → Ctx W w80 (R77 ++ R81) Φ78) ∧ I11 (n17 + 1) R77 Φ78 k79 ∧ k79
  < k20))))) (exI fun (I82 : Int → List Own → PW → Nat → Prop) => (∃ (R83 : List Own), ∃ (Φ84 : PW), ∃ (k85 : Nat), Stable Φ84 ∧ (∀ (w86 : World) (R87 : List Own), Ctx W w86 (R18 ++ R87) I19
  → Ctx W w86 (R83 ++ R87) Φ84) ∧ I82 0 R83 Φ84 k85) ∧ ∀ (n88 : Int) (R89 : List Own) (I90 : List Nat → World → Prop) (k91 : Nat), Stable I90 → I82 n88 R89 I90 k91 → Br (decide (n88 <
  (↑linesN : Int))) (∀ (w92 : World) (R93 : List Own), Ctx W w92 (R89 ++ R93) I90 → (0 ≤ n88 ∧ n88 < (↑linesN : Int)) ∧ ptrK none linesP fun (k94 k95 : Nat) => ∃ (n96 : Int), w92.cell?
  (Addr.mk k94 (k95 + n88.toNat * 7) none) = some (Value.int IntKind.i64 n96) ∧ ∃ (p97 : Option Addr), ∃ (k98 : Nat), ∃ (k99 : Nat), w92.cell? (Addr.mk sB (sO + 3) none) = some (Value.slice
  p97 k98 k99) ∧ I64 ((↑k98 : Int) + 1) ∧ I64 ((↑k98 : Int) + 1 + n88) ∧ Br (decide (n96 ≠ (↑k98 : Int) + 1 + n88)) (∀ (w100 : World) (R101 : List Own), Ctx W w100 (R89 ++ R101) I90 → J
  (Value.int IntKind.i64 25) w100) (I64 (n88 + 1) ∧ ∃ (R102 : List Own), ∃ (Φ103 : PW), ∃ (k104 : Nat), Stable Φ103 ∧ (∀ (w105 : World) (R106 : List Own), Ctx W w105 (R89 ++ R106) I90 → Ctx W
  w105 (R102 ++ R106) Φ103) ∧ I82 (n88 + 1) R102 Φ103 k104 ∧ k104 < k91)) (∀ (w107 : World) (R108 : List Own), Ctx W w107 (R89 ++ R108) I90 → J (Value.int IntKind.i64 0) w107))))

theorem Berrataref43_Sink_look_run (sB sO : Nat) (batch : Int) (linesP : Option Addr) (linesN linesC : Nat) {W w : World} {R : List Own} {Φ : PW} [Stable Φ] {J : Value → World → Prop} (c : Ctx W w R Φ) (h : Berrataref43_Sink_look sB sO batch linesP linesN linesC W R Φ J) : Calls Tryz.prog F.errataref43_Sink_look #[.pointer (some ⟨sB, sO, none⟩), .int .i64 batch, .slice linesP linesN linesC] w fun e w' => ∃ v, e = .returned v ∧ J v w' :=
  vcFS_sound (H := { keep := some [0, 1, 2, 6, 7, 8, 9, 10, 18, 22, 43, 50, 63, 67, 83], track := [8], split := [1, 7], loops := [(15, [(10, .one (.int .i64))], []), (10, [(9, .one (.int .i64))], []), (4, [(7, .one (.int .i64))], [])] }) (by rw [show vcFS Tryz.prog W { keep := some [0, 1, 2, 6, 7, 8, 9, 10, 18, 22, 43, 50, 63, 67, 83], track := [8], split := [1, 7], loops := [(15, [(10, .one (.int .i64))], []), (10, [(9, .one (.int .i64))], []), (4, [(7, .one (.int .i64))], [])] } F.errataref43_Sink_look #[.pointer (some ⟨sB, sO, none⟩), .int .i64 batch, .slice linesP linesN linesC] R Φ J = Berrataref43_Sink_look sB sO batch linesP linesN linesC W R Φ J by kernel_rfl]; exact h) c

/-- (*errataref43.Sink).take -/
def Berrataref43_Sink_take (sB sO : Nat) (batch : Int) (linesP : Option Addr) (linesN linesC : Nat) (W : World) (R : List Own) (Φ : PW) (J : Value → World → Prop) : Prop :=
  ∀ (w0 : World) (R1 : List Own), Ctx W w0 (R ++ R1) Φ → ∃ (p2 : Option Addr), ∃ (k3 : Nat), ∃ (k4 : Nat), w0.cell? (Addr.mk sB (sO + 2) none) = some (Value.slice p2 k3 k4) ∧ ∀ (k5 : Nat) (w6
  : World) (R7 : List Own), Ctx W w6 (Own.blk k5 [Value.int IntKind.i64 batch] 3 :: R ++ R7) Φ → ∃ (p8 : Option Addr), ∃ (k9 : Nat), ∃ (k10 : Nat), ∃ (w11 : World), Sem.run Tryz.prog (builtin
  Builtin.append #[50, 50] 50 #[false, false] #[Value.slice p2 k3 k4, Value.slice (some (Addr.mk k5 0 none)) 1 1]) w6 = Result.ok (Next.value (Value.slice p8 k9 k10)) w11 ∧ ∃ (R12 : List
  Own), ∃ (Φ13 : PW), Stable Φ13 ∧ Ctx W w11 (R12 ++ R7) Φ13 ∧ ∀ (w14 : World) (R15 : List Own), Ctx W w14 (R12 ++ R15) Φ13 → CanWrite w14 sB (sO + 2) 1 ∧ ∀ (w16 : World), w16 = w14.setCell
  (Addr.mk sB (sO + 2) none) (Value.slice p8 k9 k10) → ∃ (R17 : List Own), ∃ (Φ18 : PW), Stable Φ18 ∧ Ctx W w16 (R17 ++ R15) Φ18 ∧ ∀ (k19 : Nat) (w20 : World) (R21 : List Own), Ctx W w20
  (Own.blk k19 [] 46 :: R17 ++ R21) Φ18 → ∃ (p22 : Option Addr), ∃ (k23 : Nat), ∃ (k24 : Nat), w20.cell? (Addr.mk sB (sO + 3) none) = some (Value.slice p22 k23 k24) ∧ ∀ (w25 : World) (R26 :
  List Own), Ctx W w25 (Own.blk k19 [] 46 :: R17 ++ R26) Φ18 → ∃ (p27 : Option Addr), ∃ (k28 : Nat), ∃ (k29 : Nat), ∃ (w30 : World), Sem.run Tryz.prog (builtin Builtin.append #[33, 33] 33
  #[false, false] #[Value.slice (some (Addr.mk k19 0 none)) 0 0, Value.slice p22 k23 k24]) w25 = Result.ok (Next.value (Value.slice p27 k28 k29)) w30 ∧ ∃ (R31 : List Own), ∃ (Φ32 : PW),
  Stable Φ32 ∧ Ctx W w30 (R31 ++ R26) Φ32 ∧ ∀ (w33 : World) (R34 : List Own), Ctx W w33 (R31 ++ R34) Φ32 → ∃ (p35 : Option Addr), ∃ (k36 : Nat), ∃ (k37 : Nat), ∃ (w38 : World), Sem.run
  Tryz.prog (builtin Builtin.append #[33, 33] 33 #[false, false] #[Value.slice p27 k28 k29, Value.slice linesP linesN linesC]) w33 = Result.ok (Next.value (Value.slice p35 k36 k37)) w38 ∧ ∃
  (R39 : List Own), ∃ (Φ40 : PW), Stable Φ40 ∧ Ctx W w38 (R39 ++ R34) Φ40 ∧ ∀ (w41 : World) (R42 : List Own), Ctx W w41 (R39 ++ R42) Φ40 → CanWrite w41 sB (sO + 3) 1 ∧ ∀ (w43 : World), w43 =
  w41.setCell (Addr.mk sB (sO + 3) none) (Value.slice p35 k36 k37) → ∃ (R44 : List Own), ∃ (Φ45 : PW), Stable Φ45 ∧ Ctx W w43 (R44 ++ R42) Φ45 ∧ ∀ (w46 : World) (R47 : List Own), Ctx W w46
  (R44 ++ R47) Φ45 → J (Value.tuple #[]) w46

theorem Berrataref43_Sink_take_run (sB sO : Nat) (batch : Int) (linesP : Option Addr) (linesN linesC : Nat) {W w : World} {R : List Own} {Φ : PW} [Stable Φ] {J : Value → World → Prop} (c : Ctx W w R Φ) (h : Berrataref43_Sink_take sB sO batch linesP linesN linesC W R Φ J) : Calls Tryz.prog F.errataref43_Sink_take #[.pointer (some ⟨sB, sO, none⟩), .int .i64 batch, .slice linesP linesN linesC] w fun e w' => ∃ v, e = .returned v ∧ J v w' :=
  vcFS_sound (H := { keep := some [0, 2] }) (by rw [show vcFS Tryz.prog W { keep := some [0, 2] } F.errataref43_Sink_take #[.pointer (some ⟨sB, sO, none⟩), .int .i64 batch, .slice linesP linesN linesC] R Φ J = Berrataref43_Sink_take sB sO batch linesP linesN linesC W R Φ J by kernel_rfl]; exact h) c

/-- (*errataref43.Sink).Prepare -/
def Berrataref43_Sink_Prepare (sB sO : Nat) (batch : Int) (linesP : Option Addr) (linesN linesC : Nat) (W : World) (R : List Own) (Φ : PW) (J : Value → World → Prop) : Prop :=
  ∀ (w0 : World) (R1 : List Own), Ctx W w0 (R ++ R1) Φ → ∃ (n2 : Int), w0.cell? (Addr.mk sB sO none) = some (Value.int IntKind.i64 n2) ∧ Br (decide (n2 ≠ 0)) (∀ (w3 : World) (R4 : List Own),
  Ctx W w3 (R ++ R4) Φ → J (Value.int IntKind.i64 7) w3) (∀ (w5 : World) (R6 : List Own), Ctx W w5 (R ++ R6) Φ → Calls Tryz.prog F.errataref43_Sink_Has #[Value.pointer (some (Addr.mk sB sO
  none)), Value.int IntKind.i64 batch] w5 fun (e7 : Ending) (w8 : World) => ∃ (c9 : Bool), e7 = Ending.returned (Value.bool c9) ∧ ∃ (R10 : List Own), ∃ (Φ11 : PW), Stable Φ11 ∧ Ctx W w8 (R10
  ++ R6) Φ11 ∧ Br c9 (∀ (w12 : World) (R13 : List Own), Ctx W w12 (R10 ++ R13) Φ11 → J (Value.int IntKind.i64 0) w12) (∀ (w14 : World) (R15 : List Own), Ctx W w14 (R10 ++ R15) Φ11 → Calls
  Tryz.prog F.errataref43_Sink_look #[Value.pointer (some (Addr.mk sB sO none)), Value.int IntKind.i64 batch, Value.slice linesP linesN linesC] w14 fun (e16 : Ending) (w17 : World) => ∃ (n18
  : Int), e16 = Ending.returned (Value.int IntKind.i64 n18) ∧ ∃ (R19 : List Own), ∃ (Φ20 : PW), Stable Φ20 ∧ Ctx W w17 (R19 ++ R15) Φ20 ∧ Br (decide (n18 ≠ 0)) (∀ (w21 : World) (R22 : List
  Own), Ctx W w21 (R19 ++ R22) Φ20 → J (Value.int IntKind.i64 n18) w21) (∀ (w23 : World) (R24 : List Own), Ctx W w23 (R19 ++ R24) Φ20 → CanWrite w23 sB (sO + 4) 1 ∧ ∀ (w25 : World), w25 =
  w23.setCell (Addr.mk sB (sO + 4) none) (Value.int IntKind.i64 batch) → ∃ (R26 : List Own), ∃ (Φ27 : PW), Stable Φ27 ∧ Ctx W w25 (R26 ++ R24) Φ27 ∧ ∀ (w28 : World) (R29 : List Own), Ctx W
  w28 (R26 ++ R29) Φ27 → Calls Tryz.prog F.errataref43_Clone #[Value.slice linesP linesN linesC] w28 fun (e30 : Ending) (w31 : World) => ∃ (p32 : Option Addr), ∃ (k33 : Nat), ∃ (k34 : Nat),
  e30 = Ending.returned (Value.slice p32 k33 k34) ∧ ∃ (R35 : List Own), ∃ (Φ36 : PW), Stable Φ36 ∧ Ctx W w31 (R35 ++ R29) Φ36 ∧ ∀ (w37 : World) (R38 : List Own), Ctx W w37 (R35 ++ R38) Φ36 →
  CanWrite w37 sB (sO + 5) 1 ∧ ∀ (w39 : World), w39 = w37.setCell (Addr.mk sB (sO + 5) none) (Value.slice p32 k33 k34) → ∃ (R40 : List Own), ∃ (Φ41 : PW), Stable Φ41 ∧ Ctx W w39 (R40 ++ R38)
  Φ41 ∧ ∀ (w42 : World) (R43 : List Own), Ctx W w42 (R40 ++ R43) Φ41 → J (Value.int IntKind.i64 0) w42)))

theorem Berrataref43_Sink_Prepare_run (sB sO : Nat) (batch : Int) (linesP : Option Addr) (linesN linesC : Nat) {W w : World} {R : List Own} {Φ : PW} [Stable Φ] {J : Value → World → Prop} (c : Ctx W w R Φ) (h : Berrataref43_Sink_Prepare sB sO batch linesP linesN linesC W R Φ J) : Calls Tryz.prog F.errataref43_Sink_Prepare #[.pointer (some ⟨sB, sO, none⟩), .int .i64 batch, .slice linesP linesN linesC] w fun e w' => ∃ v, e = .returned v ∧ J v w' :=
  vcFS_sound (H := { keep := some [0, 1, 2, 6, 7, 12, 15, 21] }) (by rw [show vcFS Tryz.prog W { keep := some [0, 1, 2, 6, 7, 12, 15, 21] } F.errataref43_Sink_Prepare #[.pointer (some ⟨sB, sO, none⟩), .int .i64 batch, .slice linesP linesN linesC] R Φ J = Berrataref43_Sink_Prepare sB sO batch linesP linesN linesC W R Φ J by kernel_rfl]; exact h) c

/-- errataref01.Int -/
def Berrataref01_Int (n : Int) (W : World) (R : List Own) (Φ : PW) (J : Value → World → Prop) : Prop :=
  Br (decide (n < 0)) (∀ (w0 : World) (R1 : List Own), Ctx W w0 (R ++ R1) Φ → Calls Tryz.prog F.errataref01_digits #[Value.int IntKind.i64 n] w0 fun (e2 : Ending) (w3 : World) => ∃ (s4 :
  ByteArray), e2 = Ending.returned (Value.string s4) ∧ ∃ (R5 : List Own), ∃ (Φ6 : PW), Stable Φ6 ∧ Ctx W w3 (R5 ++ R1) Φ6 ∧ ((ByteArray.mk #[OfNat.ofNat 45]).size + s4.size).le
  9223372036854775807 ∧ ((ByteArray.mk #[OfNat.ofNat 45] ++ s4).size + (ByteArray.mk #[OfNat.ofNat 59]).size).le 9223372036854775807 ∧ ∀ (w7 : World) (R8 : List Own), Ctx W w7 (R5 ++ R8) Φ6 →
  J (Value.string (ByteArray.mk #[OfNat.ofNat 45] ++ s4 ++ ByteArray.mk #[OfNat.ofNat 59])) w7) (I64 (0 - n) ∧ ∀ (w9 : World) (R10 : List Own), Ctx W w9 (R ++ R10) Φ → Calls Tryz.prog
  F.errataref01_digits #[Value.int IntKind.i64 (0 - n)] w9 fun (e11 : Ending) (w12 : World) => ∃ (s13 : ByteArray), e11 = Ending.returned (Value.string s13) ∧ ∃ (R14 : List Own), ∃ (Φ15 :
  PW), Stable Φ15 ∧ Ctx W w12 (R14 ++ R10) Φ15 ∧ (s13.size + (ByteArray.mk #[OfNat.ofNat 59]).size).le 9223372036854775807 ∧ ∀ (w16 : World) (R17 : List Own), Ctx W w16 (R14 ++ R17) Φ15 → J
  (Value.string (s13 ++ ByteArray.mk #[OfNat.ofNat 59])) w16)

theorem Berrataref01_Int_run (n : Int) {W w : World} {R : List Own} {Φ : PW} [Stable Φ] {J : Value → World → Prop} (c : Ctx W w R Φ) (h : Berrataref01_Int n W R Φ J) : Calls Tryz.prog F.errataref01_Int #[.int .i64 n] w fun e w' => ∃ v, e = .returned v ∧ J v w' :=
  vcFS_sound (H := { keep := some [0, 2, 4] }) (by rw [show vcFS Tryz.prog W { keep := some [0, 2, 4] } F.errataref01_Int #[.int .i64 n] R Φ J = Berrataref01_Int n W R Φ J by kernel_rfl]; exact h) c

/-- errataref01.Nums -/
-- loop at region 3: 3 s, 4 i; blocks 
def Berrataref01_Nums (lP : Option Addr) (lN lC : Nat) (W : World) (R : List Own) (Φ : PW) (J : Value → World → Prop) : Prop :=
  I64 (0 - (↑lN : Int)) ∧ ∀ (w0 : World) (R1 : List Own), Ctx W w0 (R ++ R1) Φ → Calls Tryz.prog F.errataref01_digits #[Value.int IntKind.i64 (0 - (↑lN : Int))] w0 fun (e2 : Ending) (w3 :
  World) => ∃ (s4 : ByteArray), e2 = Ending.returned (Value.string s4) ∧ ∃ (R5 : List Own), ∃ (Φ6 : PW), Stable Φ6 ∧ Ctx W w3 (R5 ++ R1) Φ6 ∧ (s4.size + (ByteArray.mk #[OfNat.ofNat
  91]).size).le 9223372036854775807 ∧ exI fun (I7 : ByteArray → Int → List Own → PW → Nat → Prop) => (∃ (R8 : List Own), ∃ (Φ9 : PW), ∃ (k10 : Nat), Stable Φ9 ∧ (∀ (w11 : World) (R12 : List
  Own), Ctx W w11 (R5 ++ R12) Φ6 → Ctx W w11 (R8 ++ R12) Φ9) ∧ I7 (s4 ++ ByteArray.mk #[OfNat.ofNat 91]) 0 R8 Φ9 k10) ∧ ∀ (s13 : ByteArray) (n14 : Int) (R15 : List Own) (I16 : List Nat →
  World → Prop) (k17 : Nat), Stable I16 → I7 s13 n14 R15 I16 k17 → Br (decide (n14 < (↑lN : Int))) ((0 ≤ n14 ∧ n14 < (↑lN : Int)) ∧ ptrK none lP fun (k18 k19 : Nat) => ∀ (w20 : World) (R21 :
  List Own), Ctx W w20 (R15 ++ R21) I16 → ∃ (n22 : Int), w20.cell? (Addr.mk k18 (k19 + n14.toNat) none) = some (Value.int IntKind.i64 n22) ∧ ∀ (w23 : World) (R24 : List Own), Ctx W w23 (R15
  ++ R24) I16 → Calls Tryz.prog F.errataref01_Int #[Value.int IntKind.i64 n22] w23 fun (e25 : Ending) (w26 : World) => ∃ (s27 : ByteArray), e25 = Ending.returned (Value.string s27) ∧ ∃ (R28 :
  List Own), ∃ (Φ29 : PW), Stable Φ29 ∧ Ctx W w26 (R28 ++ R24) Φ29 ∧ (s13.size + s27.size).le 9223372036854775807 ∧ I64 (n14 + 1) ∧ ∃ (R30 : List Own), ∃ (Φ31 : PW), ∃ (k32 : Nat), Stable Φ31
  ∧ (∀ (w33 : World) (R34 : List Own), Ctx W w33 (R28 ++ R34) Φ29 → Ctx W w33 (R30 ++ R34) Φ31) ∧ I7 (s13 ++ s27) (n14 + 1) R30 Φ31 k32 ∧ k32 < k17) ((s13.size + (ByteArray.mk #[OfNat.ofNat
  93]).size).le 9223372036854775807 ∧ ∀ (w35 : World) (R36 : List Own), Ctx W w35 (R15 ++ R36) I16 → J (Value.string (s13 ++ ByteArray.mk #[OfNat.ofNat 93])) w35)

theorem Berrataref01_Nums_run (lP : Option Addr) (lN lC : Nat) {W w : World} {R : List Own} {Φ : PW} [Stable Φ] {J : Value → World → Prop} (c : Ctx W w R Φ) (h : Berrataref01_Nums lP lN lC W R Φ J) : Calls Tryz.prog F.errataref01_Nums #[.slice lP lN lC] w fun e w' => ∃ v, e = .returned v ∧ J v w' :=
  vcFS_sound (H := { keep := some [0, 2, 3, 4, 13], loops := [(3, [(3, .one (.str)), (4, .one (.int .i64))], [])] }) (by rw [show vcFS Tryz.prog W { keep := some [0, 2, 3, 4, 13], loops := [(3, [(3, .one (.str)), (4, .one (.int .i64))], [])] } F.errataref01_Nums #[.slice lP lN lC] R Φ J = Berrataref01_Nums lP lN lC W R Φ J by kernel_rfl]; exact h) c

/-- errataref43.lines -/
-- loop at region 3: 3 s, 4 i; blocks 
-- known blocks: 5 x
def Berrataref43_lines (lP : Option Addr) (lN lC : Nat) (W : World) (R : List Own) (Φ : PW) (J : Value → World → Prop) : Prop :=
  ∀ (w0 : World) (R1 : List Own), Ctx W w0 (R ++ R1) Φ → Calls Tryz.prog F.errataref01_Num #[Value.int IntKind.i64 (↑lN : Int)] w0 fun (e2 : Ending) (w3 : World) => ∃ (s4 : ByteArray), e2 =
  Ending.returned (Value.string s4) ∧ ∃ (R5 : List Own), ∃ (Φ6 : PW), Stable Φ6 ∧ Ctx W w3 (R5 ++ R1) Φ6 ∧ exI fun (I7 : ByteArray → Int → List Own → PW → Nat → Prop) => (∃ (R8 : List Own), ∃
  (Φ9 : PW), ∃ (k10 : Nat), Stable Φ9 ∧ (∀ (w11 : World) (R12 : List Own), Ctx W w11 (R5 ++ R12) Φ6 → Ctx W w11 (R8 ++ R12) Φ9) ∧ I7 s4 0 R8 Φ9 k10) ∧ ∀ (s13 : ByteArray) (n14 : Int) (R15 :
  List Own) (I16 : List Nat → World → Prop) (k17 : Nat), Stable I16 → I7 s13 n14 R15 I16 k17 → Br (decide (n14 < (↑lN : Int))) ((0 ≤ n14 ∧ n14 < (↑lN : Int)) ∧ ptrK none lP fun (k18 k19 :
  Nat) => ∀ (w20 : World) (R21 : List Own), Ctx W w20 (R15 ++ R21) I16 → ∃ (n22 : Int), ∃ (n23 : Int), ∃ (n24 : Int), ∃ (p25 : Option Addr), ∃ (k26 : Nat), ∃ (k27 : Nat), ∃ (n28 : Int), ∃
  (n29 : Int), ∃ (n30 : Int), RowAt w20 k18 (k19 + n14.toNat * 7) [Value.int IntKind.i64 n22, Value.int IntKind.i64 n23, Value.int IntKind.i64 n24, Value.slice p25 k26 k27, Value.int
  IntKind.i64 n28, Value.int IntKind.i64 n29, Value.int IntKind.i64 n30] ∧ ∀ (b : Nat), ∃ (R31 : List Own), ∃ (Φ32 : PW), Stable Φ32 ∧ (∀ (w33 : World) (R34 : List Own), Ctx W w33 (R15 ++
  R34) I16 → Ctx W w33 (R31 ++ R34) Φ32) ∧ ∀ (w35 : World) (R36 : List Own), Ctx W w35 (R15 ++ R36) I16 → Calls Tryz.prog F.errataref01_Int #[Value.int IntKind.i64 n23] w35 fun (e37 : Ending)
  (w38 : World) => ∃ (s39 : ByteArray), e37 = Ending.returned (Value.string s39) ∧ ∃ (R40 : List Own), ∃ (Φ41 : PW), Stable Φ41 ∧ Ctx W w38 (R40 ++ R36) Φ41 ∧ (∀ (w42 : World) (R43 : List
  Own), Ctx W w42 (R40 ++ R43) Φ41 → Ctx W w42 (R31 ++ R43) Φ32) ∧ (s13.size + s39.size).le 9223372036854775807 ∧ ∀ (w44 : World) (R45 : List Own), Ctx W w44 (R40 ++ R45) Φ41 → Calls
  Tryz.prog F.errataref01_Int #[Value.int IntKind.i64 n24] w44 fun (e46 : Ending) (w47 : World) => ∃ (s48 : ByteArray), e46 = Ending.returned (Value.string s48) ∧ ∃ (R49 : List Own), ∃ (Φ50 :
  PW), Stable Φ50 ∧ Ctx W w47 (R49 ++ R45) Φ50 ∧ (∀ (w51 : World) (R52 : List Own), Ctx W w51 (R49 ++ R52) Φ50 → Ctx W w51 (R31 ++ R52) Φ32) ∧ ((s13 ++ s39).size + s48.size).le
  9223372036854775807 ∧ ∀ (w53 : World) (R54 : List Own), Ctx W w53 (R49 ++ R54) Φ50 → Calls Tryz.prog F.errataref03_RowBytes #[Value.slice p25 k26 k27] w53 fun (e55 : Ending) (w56 : World)
  => ∃ (s57 : ByteArray), e55 = Ending.returned (Value.string s57) ∧ ∃ (R58 : List Own), ∃ (Φ59 : PW), Stable Φ59 ∧ Ctx W w56 (R58 ++ R54) Φ59 ∧ (∀ (w60 : World) (R61 : List Own), Ctx W w60
  (R58 ++ R61) Φ59 → Ctx W w60 (R31 ++ R61) Φ32) ∧ ∀ (w62 : World) (R63 : List Own), Ctx W w62 (R58 ++ R63) Φ59 → Calls Tryz.prog F.errataref01_Text #[Value.string s57] w62 fun (e64 : Ending)
  (w65 : World) => ∃ (s66 : ByteArray), e64 = Ending.returned (Value.string s66) ∧ ∃ (R67 : List Own), ∃ (Φ68 : PW), Stable Φ68 ∧ Ctx W w65 (R67 ++ R63) Φ68 ∧ (∀ (w69 : World) (R70 : List
  Own), Ctx W w69 (R67 ++ R70) Φ68 → Ctx W w69 (R31 ++ R70) Φ32) ∧ ((s13 ++ s39 ++ s48).size + s66.size).le 9223372036854775807 ∧ ∀ (w71 : World) (R72 : List Own), Ctx W w71 (R67 ++ R72) Φ68
  → Calls Tryz.prog F.errataref01_Int #[Value.int IntKind.i64 n28] w71 fun (e73 : Ending) (w74 : World) => ∃ (s75 : ByteArray), e73 = Ending.returned (Value.string s75) ∧ ∃ (R76 : List Own),
  ∃ (Φ77 : PW), Stable Φ77 ∧ Ctx W w74 (R76 ++ R72) Φ77 ∧ (∀ (w78 : World) (R79 : List Own), Ctx W w78 (R76 ++ R79) Φ77 → Ctx W w78 (R31 ++ R79) Φ32) ∧ ((s13 ++ s39 ++ s48 ++ s66).size +
  s75.size).le 9223372036854775807 ∧ ∀ (w80 : World) (R81 : List Own), Ctx W w80 (R76 ++ R81) Φ77 → Calls Tryz.prog F.errataref01_Int #[Value.int IntKind.i64 n29] w80 fun (e82 : Ending) (w83
  : World) => ∃ (s84 : ByteArray), e82 = Ending.returned (Value.string s84) ∧ ∃ (R85 : List Own), ∃ (Φ86 : PW), Stable Φ86 ∧ Ctx W w83 (R85 ++ R81) Φ86 ∧ (∀ (w87 : World) (R88 : List Own),
  Ctx W w87 (R85 ++ R88) Φ86 → Ctx W w87 (R31 ++ R88) Φ32) ∧ ((s13 ++ s39 ++ s48 ++ s66 ++ s75).size + s84.size).le 9223372036854775807 ∧ ∀ (w89 : World) (R90 : List Own), Ctx W w89 (R85 ++
  R90) Φ86 → Calls Tryz.prog F.errataref01_Int #[Value.int IntKind.i64 n30] w89 fun (e91 : Ending) (w92 : World) => ∃ (s93 : ByteArray), e91 = Ending.returned (Value.string s93) ∧ ∃ (R94 :
  List Own), ∃ (Φ95 : PW), Stable Φ95 ∧ Ctx W w92 (R94 ++ R90) Φ95 ∧ (∀ (w96 : World) (R97 : List Own), Ctx W w96 (R94 ++ R97) Φ95 → Ctx W w96 (R31 ++ R97) Φ32) ∧ ((s13 ++ s39 ++ s48 ++ s66
  ++ s75 ++ s84).size + s93.size).le 9223372036854775807 ∧ I64 (n14 + 1) ∧ ∃ (R98 : List Own), ∃ (Φ99 : PW), ∃ (k100 : Nat), Stable Φ99 ∧ (∀ (w101 : World) (R102 : List Own), Ctx W w101 (R94
  ++ R102) Φ95 → Ctx W w101 (R98 ++ R102) Φ99) ∧ I7 (s13 ++ s39 ++ s48 ++ s66 ++ s75 ++ s84 ++ s93) (n14 + 1) R98 Φ99 k100 ∧ k100 < k17) (∀ (w103 : World) (R104 : List Own), Ctx W w103 (R15
  ++ R104) I16 → J (Value.string s13) w103)

theorem Berrataref43_lines_run (lP : Option Addr) (lN lC : Nat) {W w : World} {R : List Own} {Φ : PW} [Stable Φ] {J : Value → World → Prop} (c : Ctx W w R Φ) (h : Berrataref43_lines lP lN lC W R Φ J) : Calls Tryz.prog F.errataref43_lines #[.slice lP lN lC] w fun e w' => ∃ v, e = .returned v ∧ J v w' :=
  vcFS_sound (H := { keep := some [0, 2, 3, 4, 5, 12], track := [5], stages := [(6, [.held [(0, true), (1, true), (5, true), (9, true), (14, true), (18, true), (22, true), (2, true), (6, true), (10, true), (15, true), (19, true), (23, true), (3, false), (4, true), (7, false), (8, true), (11, false), (12, false), (13, true), (16, false), (17, true), (20, false), (21, true), (24, false)], .stage [25, 26] none])], loops := [(3, [(3, .one (.str)), (4, .one (.int .i64))], [])] }) (by rw [show vcFS Tryz.prog W { keep := some [0, 2, 3, 4, 5, 12], track := [5], stages := [(6, [.held [(0, true), (1, true), (5, true), (9, true), (14, true), (18, true), (22, true), (2, true), (6, true), (10, true), (15, true), (19, true), (23, true), (3, false), (4, true), (7, false), (8, true), (11, false), (12, false), (13, true), (16, false), (17, true), (20, false), (21, true), (24, false)], .stage [25, 26] none])], loops := [(3, [(3, .one (.str)), (4, .one (.int .i64))], [])] } F.errataref43_lines #[.slice lP lN lC] R Φ J = Berrataref43_lines lP lN lC W R Φ J by kernel_rfl]; exact h) c

/-- (*errataref01.Reader).ahead -/
-- loop at region 2: 5 n; blocks 
def Berrataref01_Reader_ahead (rB rO : Nat) (endx : Int) (W : World) (R : List Own) (Φ : PW) (J : Value → World → Prop) : Prop :=
  exI fun (I0 : Int → List Own → PW → Nat → Prop) => (∃ (R1 : List Own), ∃ (Φ2 : PW), ∃ (k3 : Nat), Stable Φ2 ∧ (∀ (w4 : World) (R5 : List Own), Ctx W w4 (R ++ R5) Φ → Ctx W w4 (R1 ++ R5) Φ2)
  ∧ I0 0 R1 Φ2 k3) ∧ ∀ (n6 : Int) (R7 : List Own) (I8 : List Nat → World → Prop) (k9 : Nat), Stable I8 → I0 n6 R7 I8 k9 → ∀ (w10 : World) (R11 : List Own), Ctx W w10 (R7 ++ R11) I8 → ∃ (s12 :
  ByteArray), w10.cell? (Addr.mk rB rO none) = some (Value.string s12) ∧ ∃ (s13 : ByteArray), ((decide (n6 < (↑s12.size : Int)) && decide (n6 < 21)) = true → w10.cell? (Addr.mk rB rO none) =
  some (Value.string s13)) ∧ ∃ (u14 : UInt8), ((decide (n6 < (↑s12.size : Int)) && decide (n6 < 21)) = true → 0 ≤ n6 ∧ s13.data.toList.get?Internal n6.toNat = some u14) ∧ Br (decide (n6 <
  (↑s12.size : Int)) && decide (n6 < 21) && decide ((↑u14.toNat : Int) ≠ endx)) (I64 (n6 + 1) ∧ ∃ (R15 : List Own), ∃ (Φ16 : PW), ∃ (k17 : Nat), Stable Φ16 ∧ (∀ (w18 : World) (R19 : List
  Own), Ctx W w18 (R7 ++ R19) I8 → Ctx W w18 (R15 ++ R19) Φ16) ∧ I0 (n6 + 1) R15 Φ16 k17 ∧ k17 < k9) (∀ (w20 : World) (R21 : List Own), Ctx W w20 (R7 ++ R21) I8 → ∃ (s22 : ByteArray),
  w20.cell? (Addr.mk rB rO none) = some (Value.string s22) ∧ Br (decide ((↑s22.size : Int) ≤ n6)) (∀ (w23 : World) (R24 : List Own), Ctx W w23 (R7 ++ R24) I8 → Calls Tryz.prog
  F.errataref01_Reader_fail #[Value.pointer (some (Addr.mk rB rO none))] w23 fun (e25 : Ending) (w26 : World) => ∃ (n27 : Int), e25 = Ending.returned (Value.int IntKind.i64 n27) ∧ ∃ (R28 :
  List Own), ∃ (Φ29 : PW), Stable Φ29 ∧ Ctx W w26 (R28 ++ R24) Φ29 ∧ ∀ (w30 : World) (R31 : List Own), Ctx W w30 (R28 ++ R31) Φ29 → J (Value.int IntKind.i64 n27) w30) (∀ (w32 : World) (R33 :
  List Own), Ctx W w32 (R7 ++ R33) I8 → ∃ (s34 : ByteArray), w32.cell? (Addr.mk rB rO none) = some (Value.string s34) ∧ ∃ (u35 : UInt8), (0 ≤ n6 ∧ s34.data.toList.get?Internal n6.toNat = some
  u35) ∧ Br (decide ((↑u35.toNat : Int) ≠ endx)) (∀ (w36 : World) (R37 : List Own), Ctx W w36 (R7 ++ R37) I8 → Calls Tryz.prog F.errataref01_Reader_fail #[Value.pointer (some (Addr.mk rB rO
  none))] w36 fun (e38 : Ending) (w39 : World) => ∃ (n40 : Int), e38 = Ending.returned (Value.int IntKind.i64 n40) ∧ ∃ (R41 : List Own), ∃ (Φ42 : PW), Stable Φ42 ∧ Ctx W w39 (R41 ++ R37) Φ42
  ∧ ∀ (w43 : World) (R44 : List Own), Ctx W w43 (R41 ++ R44) Φ42 → J (Value.int IntKind.i64 n40) w43) (∀ (w45 : World) (R46 : List Own), Ctx W w45 (R7 ++ R46) I8 → ∃ (s47 : ByteArray),
  w45.cell? (Addr.mk rB rO none) = some (Value.string s47) ∧ (0 ≤ n6 ∧ n6 ≤ (↑s47.size : Int)) ∧ ∀ (w48 : World) (R49 : List Own), Ctx W w48 (R7 ++ R49) I8 → Calls Tryz.prog
  F.errataref01_Back #[Value.string (s47.extract 0 n6.toNat)] w48 fun (e50 : Ending) (w51 : World) => ∃ (n52 : Int), ∃ (c53 : Bool), e50 = Ending.returned (Value.tuple #[Value.int IntKind.i64
  n52, Value.bool c53]) ∧ ∃ (R54 : List Own), ∃ (Φ55 : PW), Stable Φ55 ∧ Ctx W w51 (R54 ++ R49) Φ55 ∧ Br (!c53) (∀ (w56 : World) (R57 : List Own), Ctx W w56 (R54 ++ R57) Φ55 → Calls Tryz.prog
  F.errataref01_Reader_fail #[Value.pointer (some (Addr.mk rB rO none))] w56 fun (e58 : Ending) (w59 : World) => ∃ (n60 : Int), e58 = Ending.returned (Value.int IntKind.i64 n60) ∧ ∃ (R61 :
  List Own), ∃ (Φ62 : PW), Stable Φ62 ∧ Ctx W w59 (R61 ++ R57) Φ62 ∧ ∀ (w63 : World) (R64 : List Own), Ctx W w63 (R61 ++ R64) Φ62 → J (Value.int IntKind.i64 n60) w63) (∀ (w65 : World) (R66 :
  List Own), Ctx W w65 (R54 ++ R66) Φ55 → ∃ (s67 : ByteArray), w65.cell? (Addr.mk rB rO none) = some (Value.string s67) ∧ I64 (n6 + 1) ∧ (0 ≤ n6 + 1 ∧ n6 + 1 ≤ (↑s67.size : Int) ∧ s67.size ≤
  s67.size) ∧ ∀ (w68 : World) (R69 : List Own), Ctx W w68 (R54 ++ R69) Φ55 → CanWrite w68 rB rO 1 ∧ ∀ (w70 : World), w70 = w68.setCell (Addr.mk rB rO none) (Value.string (s67.extract (n6 +
  1).toNat s67.size)) → ∃ (R71 : List Own), ∃ (Φ72 : PW), Stable Φ72 ∧ Ctx W w70 (R71 ++ R69) Φ72 ∧ ∀ (w73 : World) (R74 : List Own), Ctx W w73 (R71 ++ R74) Φ72 → J (Value.int IntKind.i64
  n52) w73))))

theorem Berrataref01_Reader_ahead_run (rB rO : Nat) (endx : Int) {W w : World} {R : List Own} {Φ : PW} [Stable Φ] {J : Value → World → Prop} (c : Ctx W w R Φ) (h : Berrataref01_Reader_ahead rB rO endx W R Φ J) : Calls Tryz.prog F.errataref01_Reader_ahead #[.pointer (some ⟨rB, rO, none⟩), .int .u8 endx] w fun e w' => ∃ v, e = .returned v ∧ J v w' :=
  vcFS_sound (H := { keep := some [0, 1, 4, 5, 6, 7, 28, 37, 47, 61], loops := [(2, [(5, .one (.int .i64))], [])] }) (by rw [show vcFS Tryz.prog W { keep := some [0, 1, 4, 5, 6, 7, 28, 37, 47, 61], loops := [(2, [(5, .one (.int .i64))], [])] } F.errataref01_Reader_ahead #[.pointer (some ⟨rB, rO, none⟩), .int .u8 endx] R Φ J = Berrataref01_Reader_ahead rB rO endx W R Φ J by kernel_rfl]; exact h) c

/-- (*errataref01.Reader).number -/
def Berrataref01_Reader_number (rB rO : Nat) (endx : Int) (W : World) (R : List Own) (Φ : PW) (J : Value → World → Prop) : Prop :=
  ∀ (w0 : World) (R1 : List Own), Ctx W w0 (R ++ R1) Φ → Calls Tryz.prog F.errataref01_Reader_ahead #[Value.pointer (some (Addr.mk rB rO none)), Value.int IntKind.u8 endx] w0 fun (e2 :
  Ending) (w3 : World) => ∃ (n4 : Int), e2 = Ending.returned (Value.int IntKind.i64 n4) ∧ ∃ (R5 : List Own), ∃ (Φ6 : PW), Stable Φ6 ∧ Ctx W w3 (R5 ++ R1) Φ6 ∧ Br (decide (n4 < 0)) (∀ (w7 :
  World) (R8 : List Own), Ctx W w7 (R5 ++ R8) Φ6 → Calls Tryz.prog F.errataref01_Reader_fail #[Value.pointer (some (Addr.mk rB rO none))] w7 fun (e9 : Ending) (w10 : World) => ∃ (n11 : Int),
  e9 = Ending.returned (Value.int IntKind.i64 n11) ∧ ∃ (R12 : List Own), ∃ (Φ13 : PW), Stable Φ13 ∧ Ctx W w10 (R12 ++ R8) Φ13 ∧ ∀ (w14 : World) (R15 : List Own), Ctx W w14 (R12 ++ R15) Φ13 →
  J (Value.int IntKind.i64 n11) w14) (∀ (w16 : World) (R17 : List Own), Ctx W w16 (R5 ++ R17) Φ6 → J (Value.int IntKind.i64 n4) w16)

theorem Berrataref01_Reader_number_run (rB rO : Nat) (endx : Int) {W w : World} {R : List Own} {Φ : PW} [Stable Φ] {J : Value → World → Prop} (c : Ctx W w R Φ) (h : Berrataref01_Reader_number rB rO endx W R Φ J) : Calls Tryz.prog F.errataref01_Reader_number #[.pointer (some ⟨rB, rO, none⟩), .int .u8 endx] w fun e w' => ∃ v, e = .returned v ∧ J v w' :=
  vcFS_sound (H := { keep := some [0, 1, 4, 5, 10] }) (by rw [show vcFS Tryz.prog W { keep := some [0, 1, 4, 5, 10] } F.errataref01_Reader_number #[.pointer (some ⟨rB, rO, none⟩), .int .u8 endx] R Φ J = Berrataref01_Reader_number rB rO endx W R Φ J by kernel_rfl]; exact h) c

/-- (*errataref01.Reader).close -/
def Berrataref01_Reader_close (rB rO : Nat) (endx : Int) (W : World) (R : List Own) (Φ : PW) (J : Value → World → Prop) : Prop :=
  ∀ (w0 : World) (R1 : List Own), Ctx W w0 (R ++ R1) Φ → ∃ (s2 : ByteArray), w0.cell? (Addr.mk rB rO none) = some (Value.string s2) ∧ Br (decide ((↑s2.size : Int) = 0)) (∀ (w3 : World) (R4 :
  List Own), Ctx W w3 (R ++ R4) Φ → Calls Tryz.prog F.errataref01_Reader_fail #[Value.pointer (some (Addr.mk rB rO none))] w3 fun (e5 : Ending) (w6 : World) => ∃ (n7 : Int), e5 =
  Ending.returned (Value.int IntKind.i64 n7) ∧ ∃ (R8 : List Own), ∃ (Φ9 : PW), Stable Φ9 ∧ Ctx W w6 (R8 ++ R4) Φ9 ∧ ∀ (w10 : World) (R11 : List Own), Ctx W w10 (R8 ++ R11) Φ9 → J (Value.bool
  false) w10) (∀ (w12 : World) (R13 : List Own), Ctx W w12 (R ++ R13) Φ → ∃ (s14 : ByteArray), w12.cell? (Addr.mk rB rO none) = some (Value.string s14) ∧ ∃ (u15 : UInt8), ((0 : Int) ≤ 0 ∧
  s14.data.toList.get?Internal 0 = some u15) ∧ Br (decide ((↑u15.toNat : Int) ≠ endx)) (∀ (w16 : World) (R17 : List Own), Ctx W w16 (R ++ R17) Φ → Calls Tryz.prog F.errataref01_Reader_fail
  #[Value.pointer (some (Addr.mk rB rO none))] w16 fun (e18 : Ending) (w19 : World) => ∃ (n20 : Int), e18 = Ending.returned (Value.int IntKind.i64 n20) ∧ ∃ (R21 : List Own), ∃ (Φ22 : PW),
  Stable Φ22 ∧ Ctx W w19 (R21 ++ R17) Φ22 ∧ ∀ (w23 : World) (R24 : List Own), Ctx W w23 (R21 ++ R24) Φ22 → J (Value.bool false) w23) (∀ (w25 : World) (R26 : List Own), Ctx W w25 (R ++ R26) Φ
  → ∃ (s27 : ByteArray), w25.cell? (Addr.mk rB rO none) = some (Value.string s27) ∧ ((0 : Int) ≤ 1 ∧ 1 ≤ (↑s27.size : Int) ∧ s27.size ≤ s27.size) ∧ ∀ (w28 : World) (R29 : List Own), Ctx W w28
  (R ++ R29) Φ → CanWrite w28 rB rO 1 ∧ ∀ (w30 : World), w30 = w28.setCell (Addr.mk rB rO none) (Value.string (s27.extract 1 s27.size)) → ∃ (R31 : List Own), ∃ (Φ32 : PW), Stable Φ32 ∧ Ctx W
  w30 (R31 ++ R29) Φ32 ∧ ∀ (w33 : World) (R34 : List Own), Ctx W w33 (R31 ++ R34) Φ32 → J (Value.bool true) w33))

theorem Berrataref01_Reader_close_run (rB rO : Nat) (endx : Int) {W w : World} {R : List Own} {Φ : PW} [Stable Φ] {J : Value → World → Prop} (c : Ctx W w R Φ) (h : Berrataref01_Reader_close rB rO endx W R Φ J) : Calls Tryz.prog F.errataref01_Reader_close #[.pointer (some ⟨rB, rO, none⟩), .int .u8 endx] w fun e w' => ∃ v, e = .returned v ∧ J v w' :=
  vcFS_sound (H := { keep := some [0, 1, 4, 10, 19] }) (by rw [show vcFS Tryz.prog W { keep := some [0, 1, 4, 10, 19] } F.errataref01_Reader_close #[.pointer (some ⟨rB, rO, none⟩), .int .u8 endx] R Φ J = Berrataref01_Reader_close rB rO endx W R Φ J by kernel_rfl]; exact h) c

/-- (*errataref01.Reader).fail -/
def Berrataref01_Reader_fail (rB rO : Nat) (W : World) (R : List Own) (Φ : PW) (J : Value → World → Prop) : Prop :=
  ∀ (w0 : World) (R1 : List Own), Ctx W w0 (R ++ R1) Φ → CanWrite w0 rB rO 1 ∧ ∀ (w2 : World), w2 = w0.setCell (Addr.mk rB rO none) (Value.string (ByteArray.mk #[])) → ∃ (R3 : List Own), ∃
  (Φ4 : PW), Stable Φ4 ∧ Ctx W w2 (R3 ++ R1) Φ4 ∧ ∀ (w5 : World) (R6 : List Own), Ctx W w5 (R3 ++ R6) Φ4 → CanWrite w5 rB (rO + 1) 1 ∧ ∀ (w7 : World), w7 = w5.setCell (Addr.mk rB (rO + 1)
  none) (Value.bool true) → ∃ (R8 : List Own), ∃ (Φ9 : PW), Stable Φ9 ∧ Ctx W w7 (R8 ++ R6) Φ9 ∧ ∀ (w10 : World) (R11 : List Own), Ctx W w10 (R8 ++ R11) Φ9 → J (Value.int IntKind.i64 0) w10

theorem Berrataref01_Reader_fail_run (rB rO : Nat) {W w : World} {R : List Own} {Φ : PW} [Stable Φ] {J : Value → World → Prop} (c : Ctx W w R Φ) (h : Berrataref01_Reader_fail rB rO W R Φ J) : Calls Tryz.prog F.errataref01_Reader_fail #[.pointer (some ⟨rB, rO, none⟩)] w fun e w' => ∃ v, e = .returned v ∧ J v w' :=
  vcFS_sound (H := { keep := some [0, 2] }) (by rw [show vcFS Tryz.prog W { keep := some [0, 2] } F.errataref01_Reader_fail #[.pointer (some ⟨rB, rO, none⟩)] R Φ J = Berrataref01_Reader_fail rB rO W R Φ J by kernel_rfl]; exact h) c

/-- errataref43.Clone -/
-- loop at region 3: 3 out, 4 i; blocks 
-- known blocks: 5 x
def Berrataref43_Clone (lP : Option Addr) (lN lC : Nat) (W : World) (R : List Own) (Φ : PW) (J : Value → World → Prop) : Prop :=
  exI fun (I0 : Option Addr → Nat → Nat → Int → List Own → PW → Nat → Prop) => (∃ (R1 : List Own), ∃ (Φ2 : PW), ∃ (k3 : Nat), Stable Φ2 ∧ (∀ (w4 : World) (R5 : List Own), Ctx W w4 (R ++ R5) Φ
  → Ctx W w4 (R1 ++ R5) Φ2) ∧ I0 none 0 0 0 R1 Φ2 k3) ∧ ∀ (p6 : Option Addr) (k7 k8 : Nat) (n9 : Int) (R10 : List Own) (I11 : List Nat → World → Prop) (k12 : Nat), Stable I11 → I0 p6 k7 k8 n9
  R10 I11 k12 → Br (decide (n9 < (↑lN : Int))) ((0 ≤ n9 ∧ n9 < (↑lN : Int)) ∧ ptrK none lP fun (k13 k14 : Nat) => ∀ (w15 : World) (R16 : List Own), Ctx W w15 (R10 ++ R16) I11 → ∃ (n17 : Int),
  ∃ (n18 : Int), ∃ (n19 : Int), ∃ (p20 : Option Addr), ∃ (k21 : Nat), ∃ (k22 : Nat), ∃ (n23 : Int), ∃ (n24 : Int), ∃ (n25 : Int), RowAt w15 k13 (k14 + n9.toNat * 7) [Value.int IntKind.i64
  n17, Value.int IntKind.i64 n18, Value.int IntKind.i64 n19, Value.slice p20 k21 k22, Value.int IntKind.i64 n23, Value.int IntKind.i64 n24, Value.int IntKind.i64 n25] ∧ ∀ (b k26 : Nat) (w27 :
  World) (R28 : List Own), Ctx W w27 (Own.blk k26 [] 94 :: R10 ++ R28) I11 → ∃ (p29 : Option Addr), ∃ (k30 : Nat), ∃ (k31 : Nat), ∃ (w32 : World), Sem.run Tryz.prog (builtin Builtin.append
  #[44, 44] 44 #[false, false] #[Value.slice (some (Addr.mk k26 0 none)) 0 0, Value.slice p20 k21 k22]) w27 = Result.ok (Next.value (Value.slice p29 k30 k31)) w32 ∧ ∃ (R33 : List Own), ∃ (Φ34
  : PW), Stable Φ34 ∧ Ctx W w32 (R33 ++ R28) Φ34 ∧ ∀ (k35 : Nat) (w36 : World) (R37 : List Own), Ctx W w36 (Own.blk k35 [Value.int IntKind.i64 n17, Value.int IntKind.i64 n18, Value.int
  IntKind.i64 n19, Value.slice p29 k30 k31, Value.int IntKind.i64 n23, Value.int IntKind.i64 n24, Value.int IntKind.i64 n25] 46 :: R33 ++ R37) Φ34 → ∃ (p38 : Option Addr), ∃ (k39 : Nat), ∃
  (k40 : Nat), ∃ (w41 : World), Sem.run Tryz.prog (builtin Builtin.append #[33, 33] 33 #[false, false] #[Value.slice p6 k7 k8, Value.slice (some (Addr.mk k35 0 none)) 1 1]) w36 = Result.ok
  (Next.value (Value.slice p38 k39 k40)) w41 ∧ ∃ (R42 : List Own), ∃ (Φ43 : PW), Stable Φ43 ∧ Ctx W w41 (R42 ++ R37) Φ43 ∧ I64 (n9 + 1) ∧ ∃ (R44 : List Own), ∃ (Φ45 : PW), ∃ (k46 : Nat),
  Stable Φ45 ∧ (∀ (w47 : World) (R48 : List Own), Ctx W w47 (R42 ++ R48) Φ43 → Ctx W w47 (R44 ++ R48) Φ45) ∧ I0 p38 k39 k40 (n9 + 1) R44 Φ45 k46 ∧ k46 < k12) (∀ (w49 : World) (R50 : List
  Own), Ctx W w49 (R10 ++ R50) I11 → J (Value.slice p6 k7 k8) w49)

theorem Berrataref43_Clone_run (lP : Option Addr) (lN lC : Nat) {W w : World} {R : List Own} {Φ : PW} [Stable Φ] {J : Value → World → Prop} (c : Ctx W w R Φ) (h : Berrataref43_Clone lP lN lC W R Φ J) : Calls Tryz.prog F.errataref43_Clone #[.slice lP lN lC] w fun e w' => ∃ v, e = .returned v ∧ J v w' :=
  vcFS_sound (H := { keep := some [0, 2, 3, 4, 5, 9], track := [5], loops := [(3, [(3, .one (.slice)), (4, .one (.int .i64))], [])] }) (by rw [show vcFS Tryz.prog W { keep := some [0, 2, 3, 4, 5, 9], track := [5], loops := [(3, [(3, .one (.slice)), (4, .one (.int .i64))], [])] } F.errataref43_Clone #[.slice lP lN lC] R Φ J = Berrataref43_Clone lP lN lC W R Φ J by kernel_rfl]; exact h) c

/-- errataref01.digits -/
def Berrataref01_digits (n : Int) (W : World) (R : List Own) (Φ : PW) (J : Value → World → Prop) : Prop :=
  ((10 : Int) = 0 → False) ∧ I64 (48 - n.tmod 10) ∧ ∀ (k0 : Nat) (w1 : World) (R2 : List Own), Ctx W w1 (Own.blk k0 [Value.int IntKind.u8 (IntKind.u8.wrap (48 - n.tmod 10))] 5 :: R ++ R2) Φ →
  ∃ (s3 : ByteArray), ∃ (w4 : World), Sem.run Tryz.prog (convert 109 9 (Value.slice (some (Addr.mk k0 0 none)) 1 1)) w1 = Result.ok (Value.string s3) w4 ∧ ∃ (R5 : List Own), ∃ (Φ6 : PW),
  Stable Φ6 ∧ Ctx W w4 (R5 ++ R2) Φ6 ∧ Br (decide (-10 < n)) (∀ (w7 : World) (R8 : List Own), Ctx W w7 (R5 ++ R8) Φ6 → J (Value.string s3) w7) (((10 : Int) = 0 → False) ∧ I64 (n.tdiv 10) ∧ ∀
  (w9 : World) (R10 : List Own), Ctx W w9 (R5 ++ R10) Φ6 → Calls Tryz.prog F.errataref01_digits #[Value.int IntKind.i64 (n.tdiv 10)] w9 fun (e11 : Ending) (w12 : World) => ∃ (s13 :
  ByteArray), e11 = Ending.returned (Value.string s13) ∧ ∃ (R14 : List Own), ∃ (Φ15 : PW), Stable Φ15 ∧ Ctx W w12 (R14 ++ R10) Φ15 ∧ (s13.size + s3.size).le 9223372036854775807 ∧ ∀ (w16 :
  World) (R17 : List Own), Ctx W w16 (R14 ++ R17) Φ15 → J (Value.string (s13 ++ s3)) w16)

theorem Berrataref01_digits_run (n : Int) {W w : World} {R : List Own} {Φ : PW} [Stable Φ] {J : Value → World → Prop} (c : Ctx W w R Φ) (h : Berrataref01_digits n W R Φ J) : Calls Tryz.prog F.errataref01_digits #[.int .i64 n] w fun e w' => ∃ v, e = .returned v ∧ J v w' :=
  vcFS_sound (H := { keep := some [0, 2, 3, 11] }) (by rw [show vcFS Tryz.prog W { keep := some [0, 2, 3, 11] } F.errataref01_digits #[.int .i64 n] R Φ J = Berrataref01_digits n W R Φ J by kernel_rfl]; exact h) c

/-- errataref01.Num -/
def Berrataref01_Num (n : Int) (W : World) (R : List Own) (Φ : PW) (J : Value → World → Prop) : Prop :=
  Br (decide (n < 0)) (∀ (w0 : World) (R1 : List Own), Ctx W w0 (R ++ R1) Φ → J (Value.string (ByteArray.mk #[])) w0) (∀ (w2 : World) (R3 : List Own), Ctx W w2 (R ++ R3) Φ → Calls Tryz.prog
  F.errataref01_Int #[Value.int IntKind.i64 n] w2 fun (e4 : Ending) (w5 : World) => ∃ (s6 : ByteArray), e4 = Ending.returned (Value.string s6) ∧ ∃ (R7 : List Own), ∃ (Φ8 : PW), Stable Φ8 ∧
  Ctx W w5 (R7 ++ R3) Φ8 ∧ ∀ (w9 : World) (R10 : List Own), Ctx W w9 (R7 ++ R10) Φ8 → J (Value.string s6) w9)

theorem Berrataref01_Num_run (n : Int) {W w : World} {R : List Own} {Φ : PW} [Stable Φ] {J : Value → World → Prop} (c : Ctx W w R Φ) (h : Berrataref01_Num n W R Φ J) : Calls Tryz.prog F.errataref01_Num #[.int .i64 n] w fun e w' => ∃ v, e = .returned v ∧ J v w' :=
  vcFS_sound (H := { keep := some [0, 2, 4] }) (by rw [show vcFS Tryz.prog W { keep := some [0, 2, 4] } F.errataref01_Num #[.int .i64 n] R Φ J = Berrataref01_Num n W R Φ J by kernel_rfl]; exact h) c

/-- errataref01.Text -/
def Berrataref01_Text (s : ByteArray) (W : World) (R : List Own) (Φ : PW) (J : Value → World → Prop) : Prop :=
  I64 (0 - (↑s.size : Int)) ∧ ∀ (w0 : World) (R1 : List Own), Ctx W w0 (R ++ R1) Φ → Calls Tryz.prog F.errataref01_digits #[Value.int IntKind.i64 (0 - (↑s.size : Int))] w0 fun (e2 : Ending)
  (w3 : World) => ∃ (s4 : ByteArray), e2 = Ending.returned (Value.string s4) ∧ ∃ (R5 : List Own), ∃ (Φ6 : PW), Stable Φ6 ∧ Ctx W w3 (R5 ++ R1) Φ6 ∧ (s4.size + (ByteArray.mk #[OfNat.ofNat
  58]).size).le 9223372036854775807 ∧ ((s4 ++ ByteArray.mk #[OfNat.ofNat 58]).size + s.size).le 9223372036854775807 ∧ ((s4 ++ ByteArray.mk #[OfNat.ofNat 58] ++ s).size + (ByteArray.mk
  #[OfNat.ofNat 44]).size).le 9223372036854775807 ∧ ∀ (w7 : World) (R8 : List Own), Ctx W w7 (R5 ++ R8) Φ6 → J (Value.string (s4 ++ ByteArray.mk #[OfNat.ofNat 58] ++ s ++ ByteArray.mk
  #[OfNat.ofNat 44])) w7

theorem Berrataref01_Text_run (s : ByteArray) {W w : World} {R : List Own} {Φ : PW} [Stable Φ] {J : Value → World → Prop} (c : Ctx W w R Φ) (h : Berrataref01_Text s W R Φ J) : Calls Tryz.prog F.errataref01_Text #[.string s] w fun e w' => ∃ v, e = .returned v ∧ J v w' :=
  vcFS_sound (H := { keep := some [0, 2] }) (by rw [show vcFS Tryz.prog W { keep := some [0, 2] } F.errataref01_Text #[.string s] R Φ J = Berrataref01_Text s W R Φ J by kernel_rfl]; exact h) c

/-- errataref03.RowBytes -/
-- loop at region 3: 3 s, 4 i; blocks 
def Berrataref03_RowBytes (rP : Option Addr) (rN rC : Nat) (W : World) (R : List Own) (Φ : PW) (J : Value → World → Prop) : Prop :=
  ∀ (w0 : World) (R1 : List Own), Ctx W w0 (R ++ R1) Φ → Calls Tryz.prog F.errataref01_Num #[Value.int IntKind.i64 (↑rN : Int)] w0 fun (e2 : Ending) (w3 : World) => ∃ (s4 : ByteArray), e2 =
  Ending.returned (Value.string s4) ∧ ∃ (R5 : List Own), ∃ (Φ6 : PW), Stable Φ6 ∧ Ctx W w3 (R5 ++ R1) Φ6 ∧ exI fun (I7 : ByteArray → Int → List Own → PW → Nat → Prop) => (∃ (R8 : List Own), ∃
  (Φ9 : PW), ∃ (k10 : Nat), Stable Φ9 ∧ (∀ (w11 : World) (R12 : List Own), Ctx W w11 (R5 ++ R12) Φ6 → Ctx W w11 (R8 ++ R12) Φ9) ∧ I7 s4 0 R8 Φ9 k10) ∧ ∀ (s13 : ByteArray) (n14 : Int) (R15 :
  List Own) (I16 : List Nat → World → Prop) (k17 : Nat), Stable I16 → I7 s13 n14 R15 I16 k17 → Br (decide (n14 < (↑rN : Int))) ((0 ≤ n14 ∧ n14 < (↑rN : Int)) ∧ ptrK none rP fun (k18 k19 :
  Nat) => ∀ (w20 : World) (R21 : List Own), Ctx W w20 (R15 ++ R21) I16 → ∃ (n22 : Int), ∃ (n23 : Int), ∃ (s24 : ByteArray), RowAt w20 k18 (k19 + n14.toNat * 3) [Value.int IntKind.i64 n22,
  Value.int IntKind.i64 n23, Value.string s24] ∧ ∀ (w25 : World) (R26 : List Own), Ctx W w25 (R15 ++ R26) I16 → Calls Tryz.prog F.errataref03_Bytes #[Value.agg #[Value.int IntKind.i64 n22,
  Value.int IntKind.i64 n23, Value.string s24]] w25 fun (e27 : Ending) (w28 : World) => ∃ (s29 : ByteArray), e27 = Ending.returned (Value.string s29) ∧ ∃ (R30 : List Own), ∃ (Φ31 : PW),
  Stable Φ31 ∧ Ctx W w28 (R30 ++ R26) Φ31 ∧ (s13.size + s29.size).le 9223372036854775807 ∧ I64 (n14 + 1) ∧ ∃ (R32 : List Own), ∃ (Φ33 : PW), ∃ (k34 : Nat), Stable Φ33 ∧ (∀ (w35 : World) (R36
  : List Own), Ctx W w35 (R30 ++ R36) Φ31 → Ctx W w35 (R32 ++ R36) Φ33) ∧ I7 (s13 ++ s29) (n14 + 1) R32 Φ33 k34 ∧ k34 < k17) (∀ (w37 : World) (R38 : List Own), Ctx W w37 (R15 ++ R38) I16 → J
  (Value.string s13) w37)

theorem Berrataref03_RowBytes_run (rP : Option Addr) (rN rC : Nat) {W w : World} {R : List Own} {Φ : PW} [Stable Φ] {J : Value → World → Prop} (c : Ctx W w R Φ) (h : Berrataref03_RowBytes rP rN rC W R Φ J) : Calls Tryz.prog F.errataref03_RowBytes #[.slice rP rN rC] w fun e w' => ∃ v, e = .returned v ∧ J v w' :=
  vcFS_sound (H := { keep := some [0, 2, 3, 4, 11], loops := [(3, [(3, .one (.str)), (4, .one (.int .i64))], [])] }) (by rw [show vcFS Tryz.prog W { keep := some [0, 2, 3, 4, 11], loops := [(3, [(3, .one (.str)), (4, .one (.int .i64))], [])] } F.errataref03_RowBytes #[.slice rP rN rC] R Φ J = Berrataref03_RowBytes rP rN rC W R Φ J by kernel_rfl]; exact h) c

/-- errataref03.Bytes -/
-- known blocks: 1 v
def Berrataref03_Bytes (v0 : Int) (v1 : Int) (v2 : ByteArray) (W : World) (R : List Own) (Φ : PW) (J : Value → World → Prop) : Prop :=
  ∀ (b : Nat), ∃ (R0 : List Own), ∃ (Φ1 : PW), Stable Φ1 ∧ (∀ (w2 : World) (R3 : List Own), Ctx W w2 (R ++ R3) Φ → Ctx W w2 (R0 ++ R3) Φ1) ∧ ∀ (w4 : World) (R5 : List Own), Ctx W w4 (R ++ R5)
  Φ → Calls Tryz.prog F.errataref01_Int #[Value.int IntKind.i64 v0] w4 fun (e6 : Ending) (w7 : World) => ∃ (s8 : ByteArray), e6 = Ending.returned (Value.string s8) ∧ ∃ (R9 : List Own), ∃ (Φ10
  : PW), Stable Φ10 ∧ Ctx W w7 (R9 ++ R5) Φ10 ∧ (∀ (w11 : World) (R12 : List Own), Ctx W w11 (R9 ++ R12) Φ10 → Ctx W w11 (R0 ++ R12) Φ1) ∧ ∀ (w13 : World) (R14 : List Own), Ctx W w13 (R9 ++
  R14) Φ10 → Calls Tryz.prog F.errataref01_Int #[Value.int IntKind.i64 v1] w13 fun (e15 : Ending) (w16 : World) => ∃ (s17 : ByteArray), e15 = Ending.returned (Value.string s17) ∧ ∃ (R18 :
  List Own), ∃ (Φ19 : PW), Stable Φ19 ∧ Ctx W w16 (R18 ++ R14) Φ19 ∧ (∀ (w20 : World) (R21 : List Own), Ctx W w20 (R18 ++ R21) Φ19 → Ctx W w20 (R0 ++ R21) Φ1) ∧ (s8.size + s17.size).le
  9223372036854775807 ∧ ∀ (w22 : World) (R23 : List Own), Ctx W w22 (R18 ++ R23) Φ19 → Calls Tryz.prog F.errataref01_Text #[Value.string v2] w22 fun (e24 : Ending) (w25 : World) => ∃ (s26 :
  ByteArray), e24 = Ending.returned (Value.string s26) ∧ ∃ (R27 : List Own), ∃ (Φ28 : PW), Stable Φ28 ∧ Ctx W w25 (R27 ++ R23) Φ28 ∧ (∀ (w29 : World) (R30 : List Own), Ctx W w29 (R27 ++ R30)
  Φ28 → Ctx W w29 (R0 ++ R30) Φ1) ∧ ((s8 ++ s17).size + s26.size).le 9223372036854775807 ∧ ∀ (w31 : World) (R32 : List Own), Ctx W w31 (R27 ++ R32) Φ28 → J (Value.string (s8 ++ s17 ++ s26))
  w31

theorem Berrataref03_Bytes_run (v0 : Int) (v1 : Int) (v2 : ByteArray) {W w : World} {R : List Own} {Φ : PW} [Stable Φ] {J : Value → World → Prop} (c : Ctx W w R Φ) (h : Berrataref03_Bytes v0 v1 v2 W R Φ J) : Calls Tryz.prog F.errataref03_Bytes #[.agg #[.int .i64 v0, .int .i64 v1, .string v2]] w fun e w' => ∃ v, e = .returned v ∧ J v w' :=
  vcFS_sound (H := { keep := some [1, 2], track := [1], stages := [(1, [.held [(0, true), (3, true), (7, true), (1, true), (4, true), (8, true), (2, false), (5, false), (6, true), (9, false)], .stage [10, 11] none])] }) (by rw [show vcFS Tryz.prog W { keep := some [1, 2], track := [1], stages := [(1, [.held [(0, true), (3, true), (7, true), (1, true), (4, true), (8, true), (2, false), (5, false), (6, true), (9, false)], .stage [10, 11] none])] } F.errataref03_Bytes #[.agg #[.int .i64 v0, .int .i64 v1, .string v2]] R Φ J = Berrataref03_Bytes v0 v1 v2 W R Φ J by kernel_rfl]; exact h) c

end Go.Proofs.YtjlfpkgjcffilaaGreatDoor
end

/-
  The walks of the reference's comparisons; Equal.
-/
section
set_option linter.unusedVariables false
set_option linter.unusedSimpArgs false
namespace Go.Proofs.YtjlfpkgjcffilaaGreatDoor
open Go.Vc

/-! ### Equal -/
end Go.Proofs.YtjlfpkgjcffilaaGreatDoor
end

/-
  Find, IndexFunc, walked.
-/
section
set_option linter.unusedVariables false
set_option linter.unusedSimpArgs false
namespace Go.Proofs.YtjlfpkgjcffilaaGreatDoor
open Go.Vc


/-! ### Find, Count -/
def findI {α : Type} (p : α → Bool) : Nat → List α → Int
  | _, [] => -1
  | i, x :: r => if p x = true then (i : Int) else findI p (i + 1) r

theorem findI_drop {α : Type} (p : α → Bool) (l : List α) (i : Nat) (hi : i < l.length) : findI p i (l.drop i) = if p l[i] = true then (i : Int) else findI p (i + 1) (l.drop (i + 1)) := by
  rw [List.drop_eq_getElem_cons hi]; rfl
theorem findI_any {α : Type} (p : α → Bool) : ∀ (l : List α) (i : Nat), decide (0 ≤ findI p i l) = l.any p
  | [], _ => rfl
  | x :: r, i => by
    unfold findI
    rw [List.any_cons]
    cases h : p x with
    | true => simp
    | false => simp only [Bool.false_or]; rw [if_neg (by simp)]; exact findI_any p r (i + 1)

end Go.Proofs.YtjlfpkgjcffilaaGreatDoor
end

/-
  DeleteFunc, Upto, After, walked.
-/
section
set_option linter.unusedVariables false
set_option linter.unusedSimpArgs false
namespace Go.Vc
section
variable {P : Program} {W w w' : World} {S F : List Own} {Φ Ψ : PW}

end
end Go.Vc

namespace Go.Proofs.YtjlfpkgjcffilaaGreatDoor
open Go.Vc


/-! ### Upto, After -/
end Go.Proofs.YtjlfpkgjcffilaaGreatDoor
end

/-
  Consolidated, walked; DifferenceLeast in plain Lean, and walked.
-/
section
set_option linter.unusedVariables false
set_option linter.unusedSimpArgs false
namespace Go.Proofs.YtjlfpkgjcffilaaGreatDoor
open Go.Vc


def consAt (l : List DeltaD) (j : Nat) : Bool := match l[j]? with
  | none => false
  | some y => decide (y.n ≠ 0) && match j with
    | 0 => true
    | i + 1 => match l[i]? with
      | none => false
      | some x => decide (cmpD x y < 0)
def consolidated (l : List DeltaD) : Bool := (List.range l.length).all fun j => consAt l j

theorem sumK_neg (k : Key) : ∀ a : List DeltaD, (sumK (a.map negD) k + sumK a k) % 18446744073709551616 = 0
  | [] => rfl
  | x :: a => by
    have ih := sumK_neg k a
    have h := w64_mod (0 - x.n)
    show ((if (negD x).key = k then (negD x).n else 0) + sumK (a.map negD) k + ((if x.key = k then x.n else 0) + sumK a k)) % 18446744073709551616 = 0
    have e1 : (negD x).key = x.key := rfl
    have e2 : (negD x).n = w64 (0 - x.n) := rfl
    rw [e1, e2]
    by_cases hk : x.key = k
    · rw [if_pos hk, if_pos hk]; omega
    · rw [if_neg hk, if_neg hk]; omega

theorem find_neg (a : List DeltaD) (k : Key) : findP (a.map negD) k = w64 (-(findP a k)) := by
  unfold findP
  apply w64_cong
  have := sumK_neg k a
  have := w64_mod (sumK a k)
  omega

theorem find_cons (l : List DeltaD) (k : Key) : findP (consP l) k = findP l k := (consP_norm l).2 k
theorem find_sub (a b : List DeltaD) (k : Key) : findP (subP a b) k = w64 (findP a k - findP b k) := by
  unfold subP
  rw [find_cons, findP_app, find_neg, w64_r, ← Int.sub_eq_add_neg]
theorem sub_self (a : List DeltaD) : subP a a = [] := by
  have h : ∀ k, findP [] k = findP (subP a a) k := fun k => by
    rw [find_sub, Int.sub_self]; rfl
  have := consP_is (l := subP a a) Norm.nil h
  rwa [show consP (subP a a) = subP a a from consP_cons _] at this
end Go.Proofs.YtjlfpkgjcffilaaGreatDoor
end

/-
  The reference's sorting: in plain Lean, and walked.
-/
section
set_option linter.unusedVariables false
set_option linter.unusedSimpArgs false
namespace Go.Proofs.YtjlfpkgjcffilaaGreatDoor
open Go.Vc


/-! ### in plain Lean -/
/-! ### walked -/
/-- the cells of a pinned list -/
theorem Ctx.cells {W w : World} {S : List Own} {Φ : PW} {g o : Nat} {cs : List (List Value)} {l : List DeltaD} (c : Ctx W w S Φ) (h : ∀ M w, Φ M w → Pin g o cs l M w) :
    ∀ j, (hj : j < l.length) → ∃ p c, cs.getD j [] = l[j].cells p c ∧ l[j].row.length ≤ c ∧ c ≤ maxLen ∧ I64 l[j].time ∧ I64 l[j].n := fun j hj => by
  obtain ⟨p, q, h1, h2, h3, h4, h5, _⟩ := pin_delta (h _ _ c.phi) hj
  exact ⟨p, q, h1, h2, h3, h4, h5⟩

end Go.Proofs.YtjlfpkgjcffilaaGreatDoor
end

/-
  The reference's consolidation, and what is built upon it, walked.
-/
section
set_option linter.unusedVariables false
set_option linter.unusedSimpArgs false
namespace Go.Proofs.YtjlfpkgjcffilaaGreatDoor
open Go.Vc


/-! ### in plain Lean -/
def dz (x : DeltaD) : DE := ⟨x, none, 0⟩
theorem dz_d (s : List DeltaD) : (s.map dz).map DE.d = s := by
  rw [List.map_map]
  exact List.map_id s
abbrev CO (l s outs : List DeltaD) (i : Nat) : Prop := COuter l (s.map dz) (outs.map dz) i
theorem CO.start {l s : List DeltaD} (h : s.Perm l) : CO l s [] 0 :=
  ⟨Nat.zero_le _, Norm.nil, by simp, fun k => by rw [List.drop_zero, dz_d, dz_d]; exact findP_perm h k, Nat.le_refl _⟩
theorem CO.step {l s outs : List DeltaD} {i : Nat} (h : CO l s outs i) {X : DeltaD} (hX : X ∈ s.drop i) {j : Nat} (hij : i + j ≤ s.length) (hj : 1 ≤ j) (hk : ∀ y ∈ (s.drop i).take j, y.key = X.key) {N : Int} (hN : N = findP ((s.drop i).take j) X.key)
    (hgt : ∀ y ∈ s.drop (i + j), cmpK X.key y.key < 0) : (N = 0 → CO l s outs (i + j)) ∧ (N ≠ 0 → CO l s (outs ++ [⟨X.time, X.row, N⟩]) (i + j)) := by
  have h1 := COuter.step h (X := dz X) (by rw [← List.map_drop]; exact List.mem_map_of_mem hX) (j := j) (by rw [List.length_map]; exact hij) hj
    (fun y hy => by rw [← List.map_drop, ← List.map_take] at hy; obtain ⟨z, hz, rfl⟩ := List.mem_map.1 hy; exact hk z hz) (N := N) (by rw [← List.map_drop, ← List.map_take, dz_d]; exact hN)
    (fun y hy => by rw [← List.map_drop] at hy; obtain ⟨z, hz, rfl⟩ := List.mem_map.1 hy; exact hgt z hz)
  refine ⟨h1.1, fun h0 => ?_⟩
  have := h1.2 h0 none 0
  unfold CO
  rw [List.map_append]
  exact this
theorem CO.end {l s outs : List DeltaD} (h : CO l s outs s.length) : consP l = outs := by
  have h1 := h.norm
  have h2 := h.find
  rw [dz_d] at h1 h2
  refine consP_is h1 fun k => ?_
  have := h2 k
  rwa [← List.map_drop, List.drop_length, List.map_nil, List.map_nil, List.append_nil] at this
theorem CO.few {l s outs : List DeltaD} {i : Nat} (h : CO l s outs i) : outs.length ≤ i := by
  have := COuter.few h
  rwa [List.length_map] at this

end Go.Proofs.YtjlfpkgjcffilaaGreatDoor
end

/-
  Nets of lines, out of a slice that is told or owned; Net, Upto, At; Lines; the reference's net.
-/
section
set_option linter.unusedVariables false
set_option linter.unusedSimpArgs false
namespace Go.Proofs.YtjlfpkgjcffilaaGreatDoor
open Go.Vc


section
variable {Φ : PW} {q : LP} {st : LedD} {W w : World} {R S G : List Own} {p : Option Addr} {cap : Nat} {l : List LineD} {cs : List Value}

theorem src_sl (src : Src S Φ p l cs) {i : Nat} (hi : i < l.length) {r : Option Addr} {rc : Nat} (he : (cs.drop (i * 7)).take 7 = l[i].cells r rc) {M : List Nat} (h : Φ M w) : Sl M w r l[i].row := by
  have := (src.el M w h).2 i hi
  rw [show (Gv.ty LineD).size = 7 from rfl, he] at this
  exact line_row this

end
end Go.Proofs.YtjlfpkgjcffilaaGreatDoor
end

