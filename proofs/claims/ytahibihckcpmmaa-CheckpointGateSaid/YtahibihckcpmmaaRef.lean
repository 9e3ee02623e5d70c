/-
  The gate's copy, and the reference's gate: what each of its functions does, as a contract.
-/
import Derived.Test.YtahibihckcpmmaaGate
import Derived.Test.YtahibihckcpmmaaRefB
import Derived.Maps.RangeRun
namespace Go.Proofs.Ytahibihckcpmmaa
open Go.Vc

section
variable {P : Program} {t k e : TypeId} (ht : P.underlying t = some (.map k e)) (hk : P.underlying k = some (.int .i64))
include hk ht
theorem mapUpdate_new {w : World} {b : Nat} {l : List Int} (hb : w.heap[b]? = some (setObj l)) (x : Int) (hx : x ∉ l) :
    (Instr.mapUpdate t (.map (some b)) (.int .i64 x) (.bool true)).run P w = .ok () (setB w b (setObj (l ++ [x]))) := by
  have h1 := findNow_set x l 0 0
  have h2 := check_int (P := P) hk false 9999 x w
  have e : setObj (l ++ [x]) = .map ((setEnts l).toArray.push ⟨.int .i64 x, .bool true, l.length⟩) (l.length + 1) := by
    simp only [setObj, setEnts_snoc, List.length_append, List.length_singleton]
    congr 1
    simp
  have h3 := MapKept.run_setObj_map (P := P) (setObj (l ++ [x])) hb
  rw [e] at h3 ⊢
  unfold setObj at hb
  unfold setEnts at *
  rw [if_neg hx] at h1
  unfold Instr.mapUpdate
  simp only [Instr.findKey, Sem.run_bind, run_underlying ht, MapKept.run_getObj_map hb, Result.andThen, run_underlying hk, h2, h1, Sem.run_pure, h3]
  rfl
end

/-- the loop of the copy: what has come is in the new map -/
structure CopyAt (W : World) (b bm : Nat) (g : GateS) (nb nm it : Nat) (w : World) (seen : List Nat) : Prop where
  chg : Chg [] W w
  old : GateAt w b bm g
  blk : Blk w nb [.int .i64 g.ch, .map (some nm), .int .i64 g.num, .int .i64 g.kind] 47
  new : w.heap[nm]? = some (setObj (seen.map fun j => g.came.getD j 0))
  iter : ∃ c0, w.heap[it]? = some (.mapIter (some bm) g.came.length seen.toArray c0) ∧ g.came.length ≤ c0
  nodup : seen.Nodup
  lt : ∀ j ∈ seen, j < g.came.length

theorem setEnts_mem {l : List Int} {x : MapEntry} (h : x ∈ setEnts l) : x.born < l.length ∧ x = ⟨.int .i64 (l.getD x.born 0), .bool true, x.born⟩ := by
  unfold setEnts at h
  obtain ⟨⟨a, i⟩, h1, rfl⟩ := List.mem_map.1 h
  obtain ⟨h2, h3⟩ := List.mem_zipIdx' h1
  refine ⟨h2, ?_⟩
  simp [setEnt, List.getD, h2, h3]

theorem setEnts_of {l : List Int} {i : Nat} (h : i < l.length) : (⟨.int .i64 (l.getD i 0), .bool true, i⟩ : MapEntry) ∈ setEnts l := by
  unfold setEnts
  refine List.mem_map.2 ⟨(l[i], i), ?_, ?_⟩
  · rw [List.mem_iff_getElem]
    exact ⟨i, by simpa using h, by simp⟩
  · simp [setEnt, List.getD, h]

theorem setEnts_born (l : List Int) : ((setEnts l).toArray.toList.map (·.born)).Nodup := by
  have : (setEnts l).map (·.born) = List.range l.length := by
    unfold setEnts
    rw [List.map_map]
    apply List.ext_getElem
    · simp
    · intro i h1 h2; simp [setEnt]
  simpa [this] using List.nodup_range

theorem run_range_set {P : Program} {t k e : TypeId} (ht : P.underlying t = some (.map k e)) {w : World} {b : Nat} {l : List Int} (hb : w.heap[b]? = some (setObj l)) :
    (Instr.range t (.map (some b))).run P w = .ok (.pointer (some ⟨w.heap.size, 0, none⟩)) (w.alloc (.mapIter (some b) l.length #[] l.length)) := by
  unfold setObj at hb
  simp only [Instr.range, Sem.run_bind, run_underlying ht, MapKept.run_getObj_map hb, Result.andThen, Sem.run_pure, newObj, Sem.run]
  rfl

theorem zipped_nodup {l : List Int} (hn : l.Nodup) {i j : Nat} (hi : i < l.length) (hj : j < l.length) (h : l.getD i 0 = l.getD j 0) : i = j := by
  simp only [List.getD, hi, hj, getElem?_pos, Option.getD_some] at h
  rcases Nat.lt_trichotomy i j with hlt | rfl | hlt
  · exact absurd h (List.pairwise_iff_getElem.1 hn i j hi hj hlt)
  · rfl
  · exact absurd h.symm (List.pairwise_iff_getElem.1 hn j i hj hi hlt)

theorem setBlock_eq (w : World) (b : Nat) (o : Obj) : ChangeMaps.setBlock w b o = setB w b o := rfl

theorem copy_any {w : World} {b bm : Nat} {g : GateS} (h : GateAt w b bm g) (hn : g.came.Nodup) :
    Calls Try.prog 16 #[.pointer (some ⟨b, 0, none⟩)] w fun e w' => ∃ u, e = .returned u ∧
      ∃ nb nm l', u = .pointer (some ⟨nb, 0, none⟩) ∧ l'.Perm g.came ∧ GateAt w' nb nm { g with came := l' } ∧ Chg [] w w' ∧ w.heap.size ≤ nb ∧ w.heap.size ≤ nm := by
  refine B16_run b 0 w _ ?_
  have hlt := h.lt
  refine ⟨_, _, _, _, h.1.row0, fun w4 h4 => ?_⟩
  have hb4 := Blk.eqNew h4
  have c4 : Chg [] w w4 := (Chg.refl _ _).eqAlloc h4
  have s4 : w4.heap.size = w.heap.size + 1 := by rw [h4]; exact size_alloc' _ _
  refine ⟨hb4.can (by simp), fun w5 h5 => ?_⟩
  have hb5 := hb4.eqSets h5
  have c5 := c4.eqSets h5 (.inr (Nat.le_refl _))
  have s5 : w5.heap.size = w.heap.size + 1 := by rw [h5, size_setCells, s4]
  intro w6 h6
  have hb6 := hb5.eqAlloc h6
  have c6 := c5.eqAlloc h6
  have hm6 : w6.heap[w5.heap.size]? = some (setObj []) := by rw [h6, hp_alloc_new]; rfl
  refine ⟨hb6.can (by simp [setL]), fun w7 h7 => ?_⟩
  have hb7 := hb6.eqSet h7
  have c7 := c6.eqSet h7 (.inr (Nat.le_refl _))
  have hm7 : w7.heap[w5.heap.size]? = some (setObj []) := by rw [h7, hp_setCell _ _ _ (by simp; omega)]; exact hm6
  have s7 : w7.heap.size = w.heap.size + 2 := by rw [h7, size_setCell', h6, size_alloc', s5]
  have g7 := h.chg c7 (by simp) (by simp)
  rw [s5] at hm7 hb7
  clear h4 h5 h6 h7 hb4 hb5 hb6 c4 c5 c6 hm6 s4
  refine ⟨some bm, g7.1.cell_eq (i := 1) rfl, _, _, run_range_set Try.underlying45 g7.2.1, ?_⟩
  refine exI_mk (fun wk => ∃ seen, CopyAt w b bm g w.heap.size (w.heap.size + 1) w7.heap.size wk seen) ?_
  refine exI_mk (fun wk => match wk.heap[w7.heap.size]? with | some (.mapIter _ _ seen _) => g.came.length - seen.size | _ => 0) ?_
  refine ⟨⟨[], c7.alloc _, g7.same (hp_alloc_old _ _ g7.lt.1) (hp_alloc_old _ _ g7.lt.2), hb7.same (hp_alloc_old _ _ hb7.lt), ?_, ⟨_, hp_alloc_new _ _, Nat.le_refl _⟩, by simp, by simp⟩, ?_⟩
  · rw [hp_alloc_old _ _ (by omega)]; exact hm7
  clear hb7 c7 hm7 g7
  rw [s7]
  generalize hit : w.heap.size + 2 = it
  rintro wk ⟨seen, hc⟩
  obtain ⟨c0, hi, hc0⟩ := hc.iter
  have hbm := hc.old.2.1
  unfold setObj at hbm
  rcases run_next_at (P := Try.prog) wk 0 it bm _ c0 _ _ _ hi hbm (fun x hx => (setEnts_mem (by simpa using hx)).1) hc0 with ⟨h0, hr⟩ | ⟨e, he, w1, hw1, hr⟩
  · refine .inl ⟨_, hr, _, _, seen.map fun j => g.came.getD j 0, rfl, ?_, ⟨hc.blk, hc.new, by omega⟩, hc.chg, Nat.le_refl _, by omega⟩
    have hp : seen.Perm (List.range g.came.length) := by
      refine (List.perm_ext_iff_of_nodup hc.nodup List.nodup_range).2 fun j => ⟨fun hj => List.mem_range.2 (hc.lt j hj), fun hj => ?_⟩
      have hj := List.mem_range.1 hj
      rw [Array.size_eq_zero_iff] at h0
      unfold leftOf at h0
      rw [Array.filter_eq_empty_iff] at h0
      simpa using h0 _ (by simpa using setEnts_of hj)
    have e : (List.range g.came.length).map (fun j => g.came.getD j 0) = g.came := by
      apply List.ext_getElem
      · simp
      · intro i h1 h2; simp [List.getD, h2]
    have := hp.map fun j => g.came.getD j 0
    rw [e] at this
    exact this
  · have hel : e ∈ setEnts g.came ∧ e.born ∉ seen := by
      simp only [leftOf, Array.mem_toList_iff, Array.mem_filter] at he
      simpa using he
    obtain ⟨hlt', hform⟩ := setEnts_mem hel.1
    have hw1h : w1.heap = wk.heap := by rcases hw1 with rfl | rfl <;> rfl
    have c1 : Chg [] w w1 := by
      rcases hw1 with rfl | rfl
      · exact hc.chg
      · exact hc.chg.drewN 1
    rw [setBlock_eq] at hr
    have hitlt : it < w1.heap.size := by rw [hw1h]; exact (Array.getElem?_eq_some_iff.1 hi).1
    have hold := hc.old.lt
    have e2 : ∀ k, k ≠ it → (setB w1 it (.mapIter (some bm) g.came.length (seen.toArray.push e.born) g.came.length)).heap[k]? = wk.heap[k]? := fun k hk => by rw [hp_setB _ _ hk, hw1h]
    refine .inr ⟨_, _, _, hr, ?_⟩
    have hi2 := hp_setB_same w1 (.mapIter (some bm) g.came.length (seen.toArray.push e.born) g.came.length) hitlt
    have c2 := c1.setB (b := it) (.inr (by omega)) (.mapIter (some bm) g.came.length (seen.toArray.push e.born) g.came.length)
    generalize setB w1 it (.mapIter (some bm) g.came.length (seen.toArray.push e.born) g.came.length) = w2 at *
    have hbm2 : w2.heap[bm]? = some (.map (setEnts g.came).toArray g.came.length) := by rw [e2 _ (by omega)]; exact hbm
    have hk : e.key = .int .i64 (g.came.getD e.born 0) := by rw [hform]
    have hent := run_entry_at (P := Try.prog) w2 it bm _ seen.toArray _ _ e hi2 hbm2 (by simpa using hel.1) (setEnts_born _)
    rw [hk] at hent
    refine ⟨_, _, w2, hent, some (w.heap.size + 1), (hc.blk.same (e2 _ (by omega))).cell_eq (i := 1) rfl, ?_⟩
    have hnm2 : w2.heap[w.heap.size + 1]? = some (setObj (seen.map fun j => g.came.getD j 0)) := by rw [e2 _ (by omega)]; exact hc.new
    have hnew : g.came.getD e.born 0 ∉ seen.map fun j => g.came.getD j 0 := by
      intro hm
      obtain ⟨j, hj, hjj⟩ := List.mem_map.1 hm
      have := zipped_nodup hn (hc.lt j hj) hlt' hjj
      subst this
      exact hel.2 hj
    refine ⟨_, mapUpdate_new Try.underlying45 Try.underlying3 hnm2 _ hnew, ?_, ?_⟩
    · have e3 : ∀ k, k ≠ w.heap.size + 1 → (setB w2 (w.heap.size + 1) (setObj ((seen.map fun j => g.came.getD j 0) ++ [g.came.getD e.born 0]))).heap[k]? = w2.heap[k]? := fun k hk => hp_setB _ _ hk
      have nn := hc.nodup
      refine ⟨seen ++ [e.born], c2.setB (.inr (by omega)) _, hc.old.same ?_ ?_, hc.blk.same ?_, ?_, ⟨_, ?_, Nat.le_refl _⟩, ?_, ?_⟩
      · rw [e3 _ (by omega), e2 _ (by omega)]
      · rw [e3 _ (by omega), e2 _ (by omega)]
      · rw [e3 _ (by omega), e2 _ (by omega)]
      · rw [hp_setB_same _ _ (Array.getElem?_eq_some_iff.1 hnm2).1]; simp
      · rw [e3 _ (by omega), hi2]; simp
      · rw [List.nodup_append]
        exact ⟨nn, by simp, fun a ha c hc' => by simp at hc'; subst hc'; exact fun hh => hel.2 (hh ▸ ha)⟩
      · intro j hj
        rcases List.mem_append.1 hj with hj | hj
        · exact hc.lt j hj
        · simp at hj; omega
    · have hlen : (e.born :: seen).length ≤ (List.range g.came.length).length := List.Nodup.length_le_of_subset (List.nodup_cons.2 ⟨hel.2, hc.nodup⟩) fun j hj => List.mem_range.2 (by
        rcases List.mem_cons.1 hj with rfl | hj
        · exact hlt'
        · exact hc.lt j hj)
      simp only [List.length_cons, List.length_range] at hlen
      show (match (setB w2 (w.heap.size + 1) _).heap[it]? with | some (.mapIter _ _ seen _) => g.came.length - seen.size | _ => 0) < (match wk.heap[it]? with | some (.mapIter _ _ seen _) => g.came.length - seen.size | _ => 0)
      rw [hp_setB _ _ (by omega), hi2, hi]
      simp
      omega

/-! ### the reference's gate -/

structure RefS where
  came : List Bool
  num : Int
  kind : Int

def bools (l : List Bool) : List Value := l.map Value.bool

def RefAt (w : World) (b bc : Nat) (r : RefS) : Prop :=
  Blk w b [.slice (some ⟨bc, 0, none⟩) r.came.length r.came.length, .int .i64 r.num, .int .i64 r.kind] 42 ∧ Blk w bc (bools r.came) 4 ∧ b ≠ bc

theorem RefAt.lt {w : World} {b bc : Nat} {r : RefS} (h : RefAt w b bc r) : b < w.heap.size ∧ bc < w.heap.size := ⟨h.1.lt, h.2.1.lt⟩

theorem RefAt.chg {S : List Nat} {w w' : World} {b bc : Nat} {r : RefS} (h : RefAt w b bc r) (hc : Chg S w w') (h1 : b ∉ S) (h2 : bc ∉ S) : RefAt w' b bc r :=
  ⟨hc.blk h.1 h1, hc.blk h.2.1 h2, h.2.2⟩

theorem RefAt.same {w w' : World} {b bc : Nat} {r : RefS} (h : RefAt w b bc r) (h1 : w'.heap[b]? = w.heap[b]?) (h2 : w'.heap[bc]? = w.heap[bc]?) : RefAt w' b bc r :=
  ⟨h.1.same h1, h.2.1.same h2, h.2.2⟩

theorem bools_new (n : Nat) : List.replicate n (Value.bool false) = bools (List.replicate n false) := by simp [bools]
theorem bools_len (l : List Bool) : (bools l).length = l.length := by simp [bools]
theorem bools_get {l : List Bool} {j : Nat} (h : j < l.length) : (bools l)[j]? = some (.bool l[j]) := by simp [bools, h]
theorem bools_set (l : List Bool) (j : Nat) (x : Bool) : (bools l).set j (.bool x) = bools (l.set j x) := by simp [bools, List.map_set]

theorem refNew_any (n : Int) (hn : n ≤ 1000000) (w : World) : Calls Try.prog 13 #[.int .i64 n] w fun e w' => ∃ u, e = .returned u ∧
    ∃ b bc, u = .pointer (some ⟨b, 0, none⟩) ∧ RefAt w' b bc ⟨List.replicate (max 0 n).toNat false, 0, 0⟩ ∧ Chg [] w w' ∧ w.heap.size ≤ b ∧ w.heap.size ≤ bc := by
  refine B13_run n w _ ?_
  refine ⟨by omega, fun w0 h0 w1 h1 => ?_⟩
  have hb0 := Blk.eqNew h0
  have s0 : w0.heap.size = w.heap.size + 1 := by rw [h0]; exact size_alloc' _ _
  have hb1 := Blk.eqNew h1
  refine ⟨_, _, rfl, ⟨?_, ?_, by omega⟩, ((Chg.refl _ _).eqAlloc h0).eqAlloc h1, by omega, Nat.le_refl _⟩
  · simpa using hb1
  · rw [bools_new] at hb0
    exact hb0.eqAlloc h1

theorem refCancel_any {w : World} {b bc : Nat} {r : RefS} (h : RefAt w b bc r) (hn : r.came.length ≤ 1000000) :
    Calls Try.prog 15 #[.pointer (some ⟨b, 0, none⟩)] w fun e w' => ∃ u, e = .returned u ∧ (u = .tuple #[] ∧ Chg [b] w w' ∧ ∃ bc', RefAt w' b bc' { r with num := 0, came := List.replicate r.came.length false } ∧ w.heap.size ≤ bc') := by
  obtain ⟨hb, hm, hne⟩ := h
  refine B15_run b 0 w _ ?_
  refine ⟨hb.can (by simp), fun w0 h0 => ?_⟩
  have hb0 := hb.eqSet h0
  have c0 : Chg [b] w w0 := (Chg.refl _ _).eqSet h0 (by simp)
  have s0 : w0.heap.size = w.heap.size := by rw [h0]; exact size_setCell' _ _ _
  have lt := hb.lt
  refine ⟨_, _, _, hb0.cell_eq (i := 0) rfl, by omega, fun w4 h4 => ?_⟩
  have hm4 := Blk.eqNew h4
  have hb4 := hb0.eqAlloc h4
  refine ⟨hb4.can (by simp), fun w5 h5 => ⟨rfl, (c0.eqAlloc h4).eqSet h5 (by simp), _, ⟨?_, ?_, by omega⟩, Nat.le_of_eq s0.symm⟩⟩
  · simpa using hb4.eqSet h5
  · rw [bools_new] at hm4
    have := hm4.eqOther h5 (by simp; omega)
    simpa using this

end Go.Proofs.Ytahibihckcpmmaa
