/-
  DeleteFunc, Upto, After, walked.
-/
import Derived.Test.YtbkpfhhhbhaecaaGreatDoorLT7
import Derived.Lib.SliceRun
import Derived.Test.YtbkpfhhhbhaecaaGreatDoorLT5
import Derived.Test.YtbkpfhhhbhaecaaGreatDoorLT6
import Derived.Shelf.Strconv.AtoiAll
import Derived.Shelf.Small.Wraps
import Derived.Stop.IfaceNil
import Derived.Lib.AtoiErrMem
import Derived.Lib.AtoiAllCases

section
set_option linter.unusedVariables false
set_option linter.unusedSimpArgs false
namespace Go.Vc
section
variable {P : Program} {W w w' : World} {S F : List Own} {Φ Ψ : PW}

theorem Ctx.bufShrink [Stable Φ] {p : Option Addr} {n cap : Nat} {cs : List Value} {t : TypeId} {size : Nat} (c : Ctx W w (.buf p n cap cs t size :: S) Φ) {i : Nat} (hi : i ≤ n) : Ctx W w (.buf p i cap (cs.take (i * size)) t size :: S) Φ := by
  obtain ⟨hl, hn, hm⟩ := c.bufLen 0 rfl
  have hle : i * size ≤ n * size := Nat.mul_le_mul_right _ hi
  have hown := c.own _ List.mem_cons_self
  refine c.upd (k := 0) (o' := .buf p i cap (cs.take (i * size)) t size) rfl (Chg.refl _ _) (fun b hb => .inl ?_) (by cases p <;> simp [Own.dom]) ⟨by rw [List.length_take]; omega, ?_⟩
  · cases p <;> exact hb
  · rcases hown.2 with ⟨e, rfl⟩ | ⟨g, cap', cur, e, h1, h2, h3, h4, h5, h6⟩
    · cases e
      have : i = 0 := by omega
      subst this
      exact .inl ⟨rfl, rfl⟩
    · cases e
      refine .inr ⟨g, cap, cur, rfl, h1, h2, by omega, h4, h5, ?_⟩
      rw [← h6, List.take_take, Nat.min_eq_left hle]

theorem run_clr {ats : Array TypeId} {ty : TypeId} {cs : Array Bool} {args : Array Value} {v : Value} {w w' : World} (h : (Builtin.clear_ ats ty args).run P w = .ok v w') : Sem.run P (builtin Builtin.clear ats ty cs args) w = .ok (.value v) w' := by
  unfold builtin
  simp only [Sem.run_bind, h, Result.andThen, Sem.run_pure]

theorem run_clear_cells (w : World) (t e ty : TypeId) (z : Value) (ht : P.underlying t = some (.slice e)) (hv : ∀ w, (zeroValue e).run P w = .ok z w) (h1 : ∀ v ∈ z.cells, v.oneCell' = true) (hp : 0 < z.cells.size) (b o n c : Nat) (hn : 0 < n)
    (hc : ∀ j, j < n * z.cells.size → (w.cell? ⟨b, o + j, none⟩).isSome = true) (hf : ∀ j, j < n * z.cells.size → w.frozen? ⟨b, o + j, none⟩ = false) :
    (Builtin.clear_ #[t] ty #[.slice (some ⟨b, o, none⟩) n c]).run P w = .ok (.tuple #[]) (w.setCells b o (Builtin.zeroCells z.cells n).toList) := by
  have hl : (Builtin.zeroCells z.cells n).toList.length = n * z.cells.size := by simp [Builtin.zeroCells]
  have hst := run_storeCells_cells (P := P) b o (Builtin.zeroCells z.cells n).toList 0 w (by rw [hl]; simpa using hc) (by rw [hl]; simpa using hf) (fun v hv' => by
    simp only [Builtin.zeroCells, Array.toList_map, List.mem_map] at hv'
    obtain ⟨i, _, rfl⟩ := hv'
    have hlt : i % z.cells.size < z.cells.size := Nat.mod_lt _ hp
    rw [getElem!_pos z.cells _ hlt]
    exact h1 _ (Array.getElem_mem hlt))
  simp only [Nat.add_zero] at hst
  obtain ⟨m, rfl⟩ : ∃ m, n = m + 1 := ⟨n - 1, by omega⟩
  simp [Builtin.clear_, run_underlying ht, hv, hst]

theorem setL_low (cs vs : List Value) (n : Nat) : (setL cs n vs).take n = cs.take n := by
  apply List.ext_getElem?
  intro i
  by_cases hi : i < n
  · rw [List.getElem?_take_of_lt hi, List.getElem?_take_of_lt hi, setL_get _ _ _ _ (.inl hi)]
  · rw [List.getElem?_eq_none (by rw [List.length_take]; omega), List.getElem?_eq_none (by rw [List.length_take]; omega)]
end
end Go.Vc

namespace Go.Proofs.YtbkpfhhhbhaecaaGreatDoor
open Go.Vc


theorem IndexE_use {W w : World} {S : List Own} {Φ : PW} [Stable Φ] {p : Option Addr} {cap : Nat} {es : List DE} (c : Ctx W w (bufE p cap es :: S) Φ) (f : FuncId) (cp : Array Value) (q : DE → Bool) (hlen : es.length ≤ 1000000) (hf : okFun Tryz.prog f = true)
    (hq : ∀ x ∈ es, GivesIn Φ Tryz.prog f (Array.mk (x.v :: cp.toList)) (.bool (q x))) {K : Ending → World → Prop} (hk : ∀ w', Ctx W w' (bufE p cap es :: S) Φ → K (.returned (.int .i64 (findI q 0 es))) w') :
    Calls Tryz.prog F.slices_IndexFunc_api_Delta_api_Delta #[.slice p es.length cap, .func (.func f) #[] cp] w K := by
  refine (Bslices_IndexFunc_api_Delta_api_Delta_run p es.length cap f cp (J := fun u w' => K (.returned u) w') c ?_).mono fun e w' ⟨v, he, hj⟩ => by rw [he]; exact hj
  refine exI_mk (fun n R' Φ' m => ∃ i : Nat, n = i ∧ i ≤ es.length ∧ R' = bufE p cap es :: S ∧ Φ' = Φ ∧ m = es.length - i ∧ findI q 0 es = findI q i (es.drop i)) ⟨⟨_, Φ, _, inferInstance, fun w F c => c, 0, rfl, Nat.zero_le _, rfl, rfl, rfl, rfl⟩, ?_⟩
  rintro n R1 Φ1 m _ ⟨i, rfl, hi, rfl, rfl, rfl, hor⟩
  refine Br.intro (fun hlt => ?_) (fun hge => fun w G cx => ?_)
  · have hlt : i < es.length := by simpa using hlt
    rw [findI_drop q es i hlt] at hor
    have hpg : ∃ g, p = some ⟨g, 0, none⟩ := e_ptr c (by omega)
    obtain ⟨g, rfl⟩ := hpg
    obtain ⟨X, hX⟩ : ∃ X, es[i]? = some X := ⟨_, List.getElem?_eq_getElem hlt⟩
    have hXe : es[i] = X := by rw [List.getElem?_eq_getElem hlt] at hX; exact Option.some.inj hX
    rw [hXe] at hor
    refine ⟨by omega, ptrK_intro g 0 rfl fun w G cx => ⟨X.d.time, X.p, X.d.row.length, X.c, X.d.n, by rw [Int.toNat_natCast, Nat.zero_add]; exact e_row cx hX, fun w G cx => ⟨hf, (hq X (List.mem_of_getElem? hX)).use cx fun w cx => ⟨_, rfl, _, Φ1, inferInstance, cx, Br.intro (fun h => fun w G cx => ?_) (fun h => ⟨by unfold I64; omega, _, Φ1, es.length - (i + 1), inferInstance, fun w F c => c, ⟨i + 1, rfl, hlt, rfl, rfl, rfl, ?_⟩, by omega⟩)⟩⟩⟩⟩
    · have := hk w cx.left
      rw [hor, if_pos h] at this
      exact this
    · rw [hor, if_neg (by rw [h]; simp)]
  · have hge : i = es.length := Nat.le_antisymm hi (by simpa using hge)
    have := hk w cx.left
    rw [hor, hge, List.drop_length] at this
    exact this

theorem findI_none {α : Type} (q : α → Bool) : ∀ (l : List α) (i : Nat), l.any q = false → findI q i l = -1
  | [], _, _ => rfl
  | x :: r, i, h => by
    rw [List.any_cons, Bool.or_eq_false_iff] at h
    unfold findI
    rw [if_neg (by rw [h.1]; simp)]
    exact findI_none q r (i + 1) h.2
theorem findI_some {α : Type} (q : α → Bool) : ∀ (l : List α) (i : Nat), l.any q = true → ∃ j : Nat, findI q i l = ((i + j : Nat) : Int) ∧ ∃ h : j < l.length, q l[j] = true ∧ ∀ x ∈ l.take j, q x = false
  | [], i, h => by simp at h
  | x :: r, i, h => by
    cases hx : q x with
    | true => exact ⟨0, by unfold findI; rw [if_pos hx]; rfl, by simp, by simpa using hx, by simp⟩
    | false =>
      rw [List.any_cons, hx, Bool.false_or] at h
      obtain ⟨j, h1, h2, h3, h4⟩ := findI_some q r (i + 1) h
      refine ⟨j + 1, ?_, by simp; omega, by simpa using h3, fun y hy => ?_⟩
      · unfold findI; rw [if_neg (by rw [hx]; simp), h1]; congr 1; omega
      · rw [List.take_succ_cons] at hy
        rcases List.mem_cons.1 hy with rfl | hy
        · exact hx
        · exact h4 y hy

theorem zeroD : ∀ w : World, (zeroValue 73).run Tryz.prog w = .ok (.agg #[.int .i64 0, .slice none 0 0, .int .i64 0]) w := fun w => by kernel_rfl

set_option maxHeartbeats 2000000 in
theorem DeleteE_use {W w : World} {S : List Own} {Φ : PW} [Stable Φ] {p : Option Addr} {cap : Nat} {es : List DE} (c : Ctx W w (bufE p cap es :: S) Φ) (f : FuncId) (cp : Array Value) (q : DE → Bool) (hlen : es.length ≤ 1000000) (hf : okFun Tryz.prog f = true)
    (hq : ∀ x ∈ es, GivesIn Φ Tryz.prog f (Array.mk (x.v :: cp.toList)) (.bool (q x))) {K : Ending → World → Prop}
    (hk : ∀ w', Ctx W w' (bufE p cap (es.filter fun x => !q x) :: S) Φ → K (.returned (.slice p (es.filter fun x => !q x).length cap)) w') :
    Calls Tryz.prog F.slices_DeleteFunc_api_Delta_api_Delta #[.slice p es.length cap, .func (.func f) #[] cp] w K := by
  have hcap : es.length ≤ cap := (c.bufLen 0 rfl).2.1
  have hp : 0 < es.length → ∃ g, p = some ⟨g, 0, none⟩ := fun h => e_ptr c h
  refine (Bslices_DeleteFunc_api_Delta_api_Delta_run p es.length cap f cp (J := fun u w' => K (.returned u) w') c ?_).mono fun e w' ⟨v, he, hj⟩ => by rw [he]; exact hj
  refine fun w G cx => IndexE_use (S := S ++ G) cx f cp q hlen hf hq fun w cx => ⟨_, rfl, bufE p cap es :: S, Φ, inferInstance, cx, ?_⟩
  cases hsome : es.any q with
  | false =>
    rw [findI_none q es 0 hsome]
    have hfil : (es.filter fun x => !q x) = es := List.filter_eq_self.2 fun x hx => by
      have := List.any_eq_false.1 hsome x hx
      simpa using this
    rw [hfil] at hk
    exact Br.intro (fun _ => fun w G cx => hk w cx.left) (fun h => by exfalso; revert h; decide)
  | true =>
  obtain ⟨j0, hj0, hj1, hj2, hj3⟩ := findI_some q es 0 hsome
  rw [Nat.zero_add] at hj0
  obtain ⟨g, rfl⟩ := hp (by omega)
  rw [hj0]
  refine Br.intro (fun h => by have := of_decide_eq_true h; omega) (fun _ => ⟨by unfold I64; omega, ?_⟩)
  have hfil : (es.take j0).filter (fun x => !q x) = es.take j0 := List.filter_eq_self.2 fun x hx => by rw [hj3 x hx]; rfl
  have hstart : (es.take (j0 + 1)).filter (fun x => !q x) = es.take j0 := by
    rw [List.take_succ_eq_append_getElem hj1, List.filter_append, hfil]
    simp [hj2]
  clear cx
  refine exI_mk (fun a n R' Φ' m => ∃ (i j : Nat) (ds : List DE), a = i ∧ n = j ∧ j ≤ es.length ∧ i < j ∧ R' = bufE (some ⟨g, 0, none⟩) cap ds :: S ∧ Φ' = Φ ∧ m = es.length - j ∧ ds.length = es.length ∧ i = ((es.take j).filter fun x => !q x).length ∧ ds.take i = ((es.take j).filter fun x => !q x) ∧ ds.drop j = es.drop j)
    ⟨⟨_, Φ, _, inferInstance, fun w G cx => cx, j0, j0 + 1, es, rfl, by omega, by omega, by omega, rfl, rfl, rfl, rfl, by rw [hstart]; simp; omega, by rw [hstart], rfl⟩, ?_⟩
  rintro _ _ R1 Φ1 m _ ⟨i, j, ds, rfl, rfl, hjl, hij, rfl, rfl, rfl, hcl, hi, hct, hcd⟩
  refine Br.intro (fun hlt => ?_) (fun hge => ?_)
  · have hlt : j < es.length := by simpa using hlt
    have hcj : ds[j]? = some es[j] := by
      have : (ds.drop j)[0]? = (es.drop j)[0]? := by rw [hcd]
      rw [List.getElem?_drop, List.getElem?_drop, Nat.add_zero, List.getElem?_eq_getElem hlt] at this
      exact this
    have hts : (es.take (j + 1)).filter (fun x => !q x) = (es.take j).filter (fun x => !q x) ++ (if q es[j] = true then [] else [es[j]]) := by
      rw [List.take_succ_eq_append_getElem hlt, List.filter_append]
      refine congrArg (fun z => (es.take j).filter (fun x => !q x) ++ z) ?_
      cases h : q es[j] <;> simp [h]
    have hnext : ∀ ds' : List DE, ds'.drop j = es.drop j → ds'.drop (j + 1) = es.drop (j + 1) := fun ds' h => by
      have := congrArg (List.drop 1) h
      rwa [List.drop_drop, List.drop_drop] at this
    obtain ⟨X, hX⟩ : ∃ X, es[j] = X := ⟨_, rfl⟩
    have hXm : X ∈ es := by rw [← hX]; exact List.getElem_mem hlt
    rw [hX] at hcj hts
    refine ⟨by omega, ptrK_intro g 0 rfl fun w G cx => ⟨X.d.time, X.p, X.d.row.length, X.c, X.d.n, by rw [Int.toNat_natCast, Nat.zero_add]; exact e_row cx hcj, fun _ w G cx => ⟨hf, (hq X hXm).use cx fun w cx => ⟨_, rfl, _, Φ1, inferInstance, cx, Br.intro (fun h => ⟨by omega, ptrK_intro g 0 rfl fun w G cx => ⟨by rw [Int.toNat_natCast, Nat.zero_add]; exact e_can cx (by omega), fun w' hw' => ?_⟩⟩) (fun h => ?_)⟩⟩⟩⟩
    · rw [Int.toNat_natCast, Nat.zero_add] at hw'
      have cx1 := e_put cx (i := i) (by omega) X hw'
      have h : q X = false := by simpa using h
      rw [if_neg (by rw [h]; simp)] at hts
      refine ⟨bufE (some ⟨g, 0, none⟩) cap (ds.set i X) :: S, Φ1, inferInstance, cx1, by unfold I64; omega, by unfold I64; omega, _, Φ1, es.length - (j + 1), inferInstance, fun w G cx => cx, ⟨i + 1, j + 1, ds.set i X, by omega, by omega, hlt, by omega, rfl, rfl, rfl, by simp [hcl], by rw [hts, List.length_append, ← hi]; rfl, ?_, hnext _ ?_⟩, by omega⟩
      · rw [hts, ← hct, List.take_succ_eq_append_getElem (by simp [hcl]; omega), List.take_set_of_le (Nat.le_refl _), List.getElem_set_self]
      · rw [List.drop_set_of_lt (by omega)]; exact hcd
    · have h : q X = true := by simpa using h
      rw [if_pos h, List.append_nil] at hts
      exact ⟨by unfold I64; omega, _, Φ1, es.length - (j + 1), inferInstance, fun w G cx => cx, ⟨i, j + 1, ds, rfl, by omega, hlt, by omega, rfl, rfl, rfl, hcl, by rw [hts]; exact hi, by rw [hts]; exact hct, hnext _ hcd⟩, by omega⟩
  · have hge : j = es.length := Nat.le_antisymm hjl (by simpa using hge)
    subst hge
    rw [List.take_length] at hi hct
    refine ⟨by omega, fun w G cx => ?_⟩
    have hne : ¬ cap = i := by omega
    have hsub : subPtr (some ⟨g, 0, none⟩) 3 (i : Int).toNat cap = some ⟨g, i * 3, none⟩ := by
      unfold subPtr
      rw [Int.toNat_natCast, if_neg hne, Option.map_some]
      refine congrArg some ?_
      unfold Addr.add
      split
      · rename_i h; rw [h]
      · show Addr.mk g (0 + i * 3) none = _
        rw [Nat.zero_add]
    rw [hsub, Int.toNat_natCast]
    have hcan : CanWrite w g (i * 3) ((es.length - i) * 3) := cx.bufCan 0 rfl rfl (by rw [cellsE_len, hcl]; omega)
    have hrun := run_clear_cells (P := Tryz.prog) w 44 73 0 (.agg #[.int .i64 0, .slice none 0 0, .int .i64 0]) Tryz.underlying44 zeroD (by decide) (by decide) g (i * 3) (es.length - i) (cap - i) (by omega) (fun t ht => (hcan t ht).1) (fun t ht => (hcan t ht).2)
    have hzl : (Builtin.zeroCells (Value.agg #[.int .i64 0, .slice none 0 0, .int .i64 0]).cells (es.length - i)).toList.length = (es.length - i) * 3 := by
      simp only [Builtin.zeroCells, Array.toList_map, List.length_map]
      rw [Array.length_toList, Array.size_range]; rfl
    have cx1 := cx.bufPuts 0 rfl rfl (by rw [cellsE_len, hcl]; omega) (by rw [cellsE_len, hcl, hzl]; omega) (w' := w.setCells g (i * 3) (Builtin.zeroCells (Value.agg #[.int .i64 0, .slice none 0 0, .int .i64 0]).cells (es.length - i)).toList) rfl
    have cx2 := Ctx.bufShrink (i := i) cx1 (by omega)
    rw [setL_low, cellsE_take, hct] at cx2
    have hlf : (es.filter fun x => !q x).length = i := hi.symm
    have e2 : subPtr (some ⟨g, 0, none⟩) 3 0 cap = some ⟨g, 0, none⟩ := by
      unfold subPtr
      split
      · rfl
      · simp [Addr.add]
    refine ⟨_, run_clr hrun, bufE (some ⟨g, 0, none⟩) cap (es.filter fun x => !q x) :: S, Φ1, inferInstance, by unfold bufE; rw [hlf]; exact cx2, by omega, fun w G cx => ?_⟩
    rw [e2, ← hlf]
    exact hk w cx.left

theorem late1_in {Φ : PW} [Stable Φ] (x : DeltaD) (p : Option Addr) (cap : Nat) (k : Nat) (t : Int) (hΦ : ∀ M w, Φ M w → w.cell? ⟨k, 0, none⟩ = some (.int .i64 t)) : GivesIn Φ Tryz.prog F.delta_Upto_1 #[x.v p cap, .pointer (some ⟨k, 0, none⟩)] (.bool (decide (t < x.time))) := by
  refine gives_in (Bdelta_Upto_1_run x.time p x.row.length cap x.n k 0) fun W R => ?_
  exact fun _ w G cx => ⟨t, hΦ _ _ cx.phi, fun w G cx => ⟨rfl, cx.left⟩⟩
abbrev lowP (l : List DeltaD) (t : Int) : List DeltaD := l.filter fun x : DeltaD => decide (x.time ≤ t)
def uptoP (l : List DeltaD) (t : Int) : List DeltaD := consP (lowP l t)
theorem map_filterE (es : List DE) (q : DeltaD → Bool) : (es.filter fun x => q x.d).map DE.d = (es.map DE.d).filter q := by
  rw [List.filter_map]; rfl

theorem Upto_sl {Φ : PW} [Stable Φ] (p : Option Addr) (cap : Nat) (l : List DeltaD) (t : Int) (hΦ : ∀ M w, Φ M w → Sl M w p l) (hlen : l.length ≤ 1000000) (hrow : ∀ x ∈ l, x.row.length ≤ 1000000) :
    GivesSl Φ Tryz.prog F.delta_Upto #[.slice p l.length cap, .int .i64 t] (uptoP l t) id := by
  refine gives_sl (Bdelta_Upto_run p l.length cap t) fun W R => ?_
  intro k w G cx
  refine (CloneD_in p cap l hΦ (by omega)).use cx fun p1 c1 cs w cx => ?_
  obtain ⟨es, rfl, hes⟩ := elems_ex cx.phi.2
  have hl : l.length = es.length := by rw [← hes, List.length_map]
  have cx1 : Ctx W w (.blk k [.int .i64 t] 3 :: bufE p1 c1 es :: (R ++ G)) (fun M w => Φ M w ∧ EPhi es M w) := by
    have h1 := (cx.weak (Ψ := fun M w => Φ M w ∧ EPhi es M w) fun M w h => ⟨h.1, elems_e (by rw [hes]; exact h.2)⟩).swap
    rw [hl] at h1
    exact h1
  refine ⟨p1, l.length, c1, rfl, .blk k [.int .i64 t] 3 :: bufE p1 c1 es :: R, _, inferInstance, cx1, fun w G cx => ?_⟩
  rw [hl]
  have cx2 : Ctx W w (bufE p1 c1 es :: (R ++ G)) (Go.Vc.Aside W [.blk k [.int .i64 t] 3] fun M w => Φ M w ∧ EPhi es M w) := cx.aside (Q := [.blk k [.int .i64 t] 3])
  have hcell : ∀ M w, Go.Vc.Aside W [.blk k [.int .i64 t] 3] (fun M w => Φ M w ∧ EPhi es M w) M w → w.cell? ⟨k, 0, none⟩ = some (.int .i64 t) := fun M w h => by
    have := (h.parked (o := .blk k [.int .i64 t] 3) (by simp)).1
    exact (show Blk w k [.int .i64 t] 3 from this).cell_eq rfl
  refine DeleteE_use (S := R ++ G) cx2 F.delta_Upto_1 #[.pointer (some ⟨k, 0, none⟩)] (fun x => decide (t < x.d.time)) (by omega) (by kernel_rfl) (fun x _ => late1_in x.d x.p x.c k t hcell) fun w cx => ?_
  have hfil : (es.filter fun x : DE => !decide (t < x.d.time)) = es.filter fun x : DE => decide (x.d.time ≤ t) := List.filter_congr fun x _ => by
    by_cases h : t < x.d.time
    · rw [decide_eq_true h, decide_eq_false (by omega)]; rfl
    · rw [decide_eq_false h, decide_eq_true (by omega)]; rfl
  rw [hfil] at cx ⊢
  have hmap : (es.filter fun x : DE => decide (x.d.time ≤ t)).map DE.d = lowP l t := by rw [← hes]; exact map_filterE es (fun x : DeltaD => decide (x.time ≤ t))
  obtain ⟨fs, hfs⟩ : ∃ fs, (es.filter fun x : DE => decide (x.d.time ≤ t)) = fs := ⟨_, rfl⟩
  have hsub : ∀ x ∈ fs, x ∈ es := fun x hx => by rw [← hfs] at hx; exact (List.mem_filter.1 hx).1
  rw [hfs] at cx hmap ⊢
  have cx3 : Ctx W w (bufE p1 c1 fs :: (R ++ G)) (fun M w => Φ M w ∧ EPhi fs M w) := (cx.unaside.sub (List.sublist_cons_self _ _)).weak fun M w h => ⟨h.1, fun x hx => h.2 x (hsub x hx)⟩
  obtain ⟨ho, hle⟩ : (lowP l t).length = fs.length ∧ fs.length ≤ es.length := ⟨by rw [← hmap, List.length_map], by rw [← hfs]; exact List.length_filter_le _ _⟩
  have cx4 : Ctx W w (.buf p1 (fs.map DE.d).length c1 (cellsE fs) 73 3 :: (R ++ G)) (fun M w => Φ M w ∧ EPhi fs M w) := by rw [List.length_map]; exact cx3
  obtain ⟨cx5, hs, _⟩ := Ctx.freeze (α := DeltaD) (l := fs.map DE.d) cx4.fst (e_elems cx4.phi.2)
  rw [hmap] at hs
  refine ⟨p1, fs.length, c1, rfl, R, fun M w => Φ M w ∧ Sl M w p1 (lowP l t), inferInstance, cx5.add hs, fun w G cx => ?_⟩
  rw [← ho]
  refine (Consolidate_sl (Φ := fun M w => Φ M w ∧ Sl M w p1 (lowP l t)) p1 c1 (lowP l t) (fun M w h => h.2) (by omega) (fun x hx => hrow x (List.mem_filter.1 hx).1)).use cx fun p3 c3 w h1 h2 cx => ⟨p3, _, c3, rfl, R, fun M w => Φ M w ∧ Sl M w p3 (uptoP l t), inferInstance, cx.weak fun M w h => ⟨h.1.1, h.2⟩, fun w G cx => ⟨p3, c3, rfl, h1, h2, cx.left⟩⟩

end Go.Proofs.YtbkpfhhhbhaecaaGreatDoor
end

section
set_option linter.unusedVariables false
set_option linter.unusedSimpArgs false
namespace Go.Proofs.YtbkpfhhhbhaecaaGreatDoor
open Go.Vc


def consAt (l : List DeltaD) (j : Nat) : Bool := match l[j]? with
  | none => false
  | some y => decide (y.n ≠ 0) && match j with
    | 0 => true
    | i + 1 => match l[i]? with
      | none => false
      | some x => decide (cmpD x y < 0)
def consolidated (l : List DeltaD) : Bool := (List.range l.length).all fun j => consAt l j

theorem sumK_neg (k : Key) : ∀ a : List DeltaD, (sumK (a.map negD) k + sumK a k) % 18446744073709551616 = 0
  | [] => rfl
  | x :: a => by
    have ih := sumK_neg k a
    have h := w64_mod (0 - x.n)
    show ((if (negD x).key = k then (negD x).n else 0) + sumK (a.map negD) k + ((if x.key = k then x.n else 0) + sumK a k)) % 18446744073709551616 = 0
    have e1 : (negD x).key = x.key := rfl
    have e2 : (negD x).n = w64 (0 - x.n) := rfl
    rw [e1, e2]
    by_cases hk : x.key = k
    · rw [if_pos hk, if_pos hk]; omega
    · rw [if_neg hk, if_neg hk]; omega

theorem find_neg (a : List DeltaD) (k : Key) : findP (a.map negD) k = w64 (-(findP a k)) := by
  unfold findP
  apply w64_cong
  have := sumK_neg k a
  have := w64_mod (sumK a k)
  omega

theorem find_cons (l : List DeltaD) (k : Key) : findP (consP l) k = findP l k := (consP_norm l).2 k
theorem find_sub (a b : List DeltaD) (k : Key) : findP (subP a b) k = w64 (findP a k - findP b k) := by
  unfold subP
  rw [find_cons, findP_app, find_neg, w64_r, ← Int.sub_eq_add_neg]
theorem sub_self (a : List DeltaD) : subP a a = [] := by
  have h : ∀ k, findP [] k = findP (subP a a) k := fun k => by
    rw [find_sub, Int.sub_self]; rfl
  have := consP_is (l := subP a a) Norm.nil h
  rwa [show consP (subP a a) = subP a a from consP_cons _] at this
abbrev Rows1 (l : List DeltaD) : Prop := ∀ x ∈ l, x.row.length ≤ 1000000
end Go.Proofs.YtbkpfhhhbhaecaaGreatDoor
end

section
set_option linter.unusedVariables false
set_option linter.unusedSimpArgs false
namespace Go.Proofs.YtbkpfhhhbhaecaaGreatDoor
open Go.Vc


def leD (x y : DeltaD) : Bool := decide (cmpD x y ≤ 0)
def srt : Nat → List DeltaD → List DeltaD
  | 0, l => l
  | f + 1, l => if l.length < 2 then l else List.merge (srt f (l.take (l.length / 2))) (srt f (l.drop (l.length / 2))) leD

theorem srt_perm : ∀ (f : Nat) (l : List DeltaD), (srt f l).Perm l
  | 0, l => .refl _
  | f + 1, l => by
    unfold srt
    split
    · exact .refl _
    · refine (List.merge_perm_append leD).trans (((srt_perm f _).append (srt_perm f _)).trans ?_)
      rw [List.take_append_drop]
theorem leD_trans (x y z : DeltaD) (h1 : leD x y = true) (h2 : leD y z = true) : leD x z = true := by
  unfold leD at *
  have h1 := of_decide_eq_true h1
  have h2 := of_decide_eq_true h2
  rw [cmpD_key] at h1 h2
  refine decide_eq_true ?_
  rw [cmpD_key]
  rcases Int.lt_or_eq_of_le h1 with h3 | h3
  · rcases Int.lt_or_eq_of_le h2 with h4 | h4
    · exact Int.le_of_lt (cmpK_cmp.trans _ _ _ h3 h4)
    · rw [← (cmpK_cmp.eq _ _).1 h4]; exact h1
  · rw [(cmpK_cmp.eq _ _).1 h3]; exact h2
theorem leD_total (x y : DeltaD) : (leD x y || leD y x) = true := by
  unfold leD
  rw [Bool.or_eq_true, decide_eq_true_eq, decide_eq_true_eq, cmpD_key, cmpD_key]
  rcases cmpK_cmp.tri x.key y.key with h | h | h
  · left; omega
  · left; rw [h, cmpK_cmp.refl]; omega
  · right; omega
theorem srt_asc : ∀ (f : Nat) (l : List DeltaD), l.length ≤ f → (srt f l).Pairwise (fun a b => leD a b = true)
  | 0, l, h => by
    rw [List.length_eq_zero_iff.1 (Nat.le_zero.1 h)]
    exact List.Pairwise.nil
  | f + 1, l, h => by
    unfold srt
    split
    · rename_i h2
      match l, h2 with
      | [], _ => exact List.Pairwise.nil
      | [x], _ => exact List.pairwise_singleton _ _
    · exact List.pairwise_merge leD_trans leD_total _ _ (srt_asc f _ (by rw [List.length_take]; omega)) (srt_asc f _ (by rw [List.length_drop]; omega))

theorem merge_l {A B : List DeltaD} {i k : Nat} (hi : i < A.length) (hk : k < B.length) (h : cmpD A[i] B[k] ≤ 0) : List.merge (A.drop i) (B.drop k) leD = A[i] :: List.merge (A.drop (i + 1)) (B.drop k) leD := by
  rw [List.drop_eq_getElem_cons hi]
  conv => lhs; rw [List.drop_eq_getElem_cons hk, List.cons_merge_cons_pos _ _ _ (show leD A[i] B[k] = true from decide_eq_true h), ← List.drop_eq_getElem_cons hk]
theorem merge_r {A B : List DeltaD} {i k : Nat} (hi : i < A.length) (hk : k < B.length) (h : ¬ cmpD A[i] B[k] ≤ 0) : List.merge (A.drop i) (B.drop k) leD = B[k] :: List.merge (A.drop i) (B.drop (k + 1)) leD := by
  have h2 : ¬ leD A[i] B[k] = true := by unfold leD; simpa using h
  conv => lhs; rw [List.drop_eq_getElem_cons hi, List.drop_eq_getElem_cons hk, List.cons_merge_cons_neg _ _ _ h2, ← List.drop_eq_getElem_cons hi]
theorem merge_l0 {A B : List DeltaD} {i k : Nat} (hi : i < A.length) (hk : B.length ≤ k) : List.merge (A.drop i) (B.drop k) leD = A[i] :: List.merge (A.drop (i + 1)) (B.drop k) leD := by
  rw [List.drop_eq_nil_of_le hk, List.merge_right, List.merge_right, List.drop_eq_getElem_cons hi]
theorem merge_r0 {A B : List DeltaD} {i k : Nat} (hi : A.length ≤ i) (hk : k < B.length) : List.merge (A.drop i) (B.drop k) leD = B[k] :: List.merge (A.drop i) (B.drop (k + 1)) leD := by
  rw [List.drop_eq_nil_of_le hi, List.nil_merge, List.nil_merge, List.drop_eq_getElem_cons hk]

theorem tdiv2 (n : Nat) : (n : Int).tdiv 2 = ((n / 2 : Nat) : Int) := rfl

theorem Ctx.cells {W w : World} {S : List Own} {Φ : PW} {g o : Nat} {cs : List (List Value)} {l : List DeltaD} (c : Ctx W w S Φ) (h : ∀ M w, Φ M w → Pin g o cs l M w) :
    ∀ j, (hj : j < l.length) → ∃ p c, cs.getD j [] = l[j].cells p c ∧ l[j].row.length ≤ c ∧ c ≤ maxLen ∧ I64 l[j].time ∧ I64 l[j].n := fun j hj => by
  obtain ⟨p, q, h1, h2, h3, h4, h5, _⟩ := pin_delta (h _ _ c.phi) hj
  exact ⟨p, q, h1, h2, h3, h4, h5⟩

theorem push1 {W w : World} {R G : List Own} {PS : PW} [Stable PS] {op : Option Addr} {oc : Nat} {ds : List Value} {o : List DeltaD} {x : DeltaD} {q : Option Addr} {qc kb : Nat} (hx : ∀ M w, PS M w → Gv.rep M w (x.cells q qc) x) (ho : o.length < 10000000)
    (cx : Ctx W w (.blk kb (x.cells q qc) 73 :: .buf op o.length oc ds 73 3 :: R ++ G) (fun M w => PS M w ∧ Elems M w ds o)) :
    ∃ p c w', Sem.run Tryz.prog (builtin Builtin.append #[44, 44] 44 #[false, false] #[.slice op o.length oc, .slice (some ⟨kb, 0, none⟩) 1 1]) w = .ok (.value (.slice p (o ++ [x]).length c)) w' ∧ Ctx W w' (.buf p (o ++ [x]).length c (ds ++ x.cells q qc) 73 3 :: R ++ G) (fun M w => PS M w ∧ Elems M w (ds ++ x.cells q qc) (o ++ [x])) := by
  obtain ⟨p', cap', w', hrun, _, cx'⟩ := Ctx.app1 (P := Tryz.prog) (ts := 44) (ty := 44) (kb := #[false, false]) (size := 3) (bytes := 40) cx (by kernel_rfl) (by omega) rfl rfl (by omega) (by omega)
  have e : o.length + 1 = (o ++ [x]).length := by simp
  rw [e] at hrun cx'
  exact ⟨p', cap', w', hrun, cx'.weak fun M w h => ⟨h.1, h.2.snoc (hx M w h.1)⟩⟩

set_option maxHeartbeats 4000000 in
theorem sorted_sl : ∀ (f : Nat) {Φ : PW} [Stable Φ] (p : Option Addr) (cap : Nat) (l : List DeltaD), (∀ M w, Φ M w → Sl M w p l) → l.length ≤ f → l.length ≤ cap → cap ≤ maxLen → l.length ≤ 1000000 → Rows1 l → GivesSl Φ Tryz.prog F.errataref28_sorted #[.slice p l.length cap] (srt f l) id := by
  intro f
  induction f with
  | zero =>
    intro Φ _ p cap l hΦ hf hc1 hc2 hl hr
    refine gives_sl (Berrataref28_sorted_run p l.length cap) fun W R => Br.intro (fun _ => fun w G cx => ⟨p, cap, rfl, hc1, hc2, cx.left.weak fun M w h => ⟨h, hΦ M w h⟩⟩) (fun h => ?_)
    have := of_decide_eq_false h
    omega
  | succ f ih =>
    intro Φ hΦs p cap l hΦ hf hc1 hc2 hl hr
    refine .there (fun M w h => (hΦ M w h).there) fun hth => ?_
    by_cases h2 : l.length < 2
    · have e : srt (f + 1) l = l := by unfold srt; rw [if_pos h2]
      rw [e]
      exact gives_sl (Berrataref28_sorted_run p l.length cap) fun W R => Br.intro (fun _ => fun w G cx => ⟨p, cap, rfl, hc1, hc2, cx.left.weak fun M w h => ⟨h, hΦ M w h⟩⟩) (fun h => by have := of_decide_eq_false h; omega)
    · have e : srt (f + 1) l = List.merge (srt f (l.take (l.length / 2))) (srt f (l.drop (l.length / 2))) leD := by conv => lhs; unfold srt; rw [if_neg h2]
      rw [e]
      refine gives_sl (Berrataref28_sorted_run p l.length cap) fun W R => Br.intro (fun h => by have := of_decide_eq_true h; omega) (fun _ => ?_)
      have t2 := tdiv2 l.length
      have lA : (l.take (l.length / 2)).length = ((l.length : Int).tdiv 2).toNat := by rw [List.length_take, t2, Int.toNat_natCast]; omega
      have lB : (l.drop (l.length / 2)).length = l.length - ((l.length : Int).tdiv 2).toNat := by rw [List.length_drop, t2, Int.toNat_natCast]
      have hA : ∀ M w, Φ M w → Sl M w (subPtr p 3 0 cap) (l.take (l.length / 2)) := fun M w h => by
        have h1 := addr_sub (hΦ M w h) 0 hc1
        rw [List.drop_zero] at h1
        exact fun j hj => by
          have hj2 : j < l.length := by rw [List.length_take] at hj; omega
          obtain ⟨b, o, cs, h1, h2, h3, h4⟩ := h1 j hj2
          exact ⟨b, o, cs, h1, h2, h3, by rw [List.getElem_take]; exact h4⟩
      have hB : ∀ M w, Φ M w → Sl M w (subPtr p 3 ((l.length : Int).tdiv 2).toNat cap) (l.drop (l.length / 2)) := fun M w h => by
        have h1 := addr_sub (hΦ M w h) (l.length / 2) hc1
        rw [t2, Int.toNat_natCast]
        exact h1
      have ihA := ih (Φ := Φ) (subPtr p 3 0 cap) cap (l.take (l.length / 2)) hA (by rw [List.length_take]; omega) (by rw [List.length_take]; omega) hc2 (by rw [List.length_take]; omega) (fun x hx => hr x (List.mem_of_mem_take hx))
      obtain ⟨A, eA⟩ : ∃ A, srt f (l.take (l.length / 2)) = A := ⟨_, rfl⟩
      obtain ⟨B, eB⟩ : ∃ B, srt f (l.drop (l.length / 2)) = B := ⟨_, rfl⟩
      have pA : A.Perm (l.take (l.length / 2)) := by rw [← eA]; exact srt_perm f _
      have pB : B.Perm (l.drop (l.length / 2)) := by rw [← eB]; exact srt_perm f _
      have nA := pA.length_eq
      have nB := pB.length_eq
      rw [List.length_take] at nA
      rw [List.length_drop] at nB
      rw [lA] at ihA
      refine ⟨by omega, by rw [t2]; unfold I64; omega, by rw [t2]; omega, fun w G cx => ihA.to cx fun p1 c1 g1 g2 st1 => ?_⟩
      clear cx
      refine ⟨by omega, by rw [t2]; unfold I64; omega, by rw [t2]; omega, ?_⟩
      rw [eA] at g1 st1 ⊢
      have ihB := ih (Φ := fun M w => Φ M w ∧ Sl M w p1 A) (subPtr p 3 ((l.length : Int).tdiv 2).toNat cap) (cap - ((l.length : Int).tdiv 2).toNat) (l.drop (l.length / 2)) (fun M w h => hB M w h.1) (by rw [List.length_drop]; omega) (by rw [List.length_drop, t2, Int.toNat_natCast]; omega) (by omega) (by rw [List.length_drop]; omega) (fun x hx => hr x (List.mem_of_mem_drop hx))
      rw [lB, eB] at ihB
      refine fun w G cx => ihB.use cx fun p2 c2 w g3 g4 cx => ?_
      rw [eB]
      obtain ⟨ga, oa, ca, hpa, cx⟩ := cx.pin cx.phi.1.2
      obtain ⟨gb, ob, cb, hpb, cx⟩ := cx.pin cx.phi.1.2
      obtain ⟨PS, hPS⟩ : ∃ PS : PW, PS = (fun M w => (((Φ M w ∧ Sl M w p1 A) ∧ Sl M w p2 B) ∧ Pin ga oa ca A M w) ∧ Pin gb ob cb B M w) := ⟨_, rfl⟩
      have stP : Stable PS := by rw [hPS]; infer_instance
      have iA : ∀ M w, PS M w → Pin ga oa ca A M w := fun M w h => by rw [hPS] at h; exact h.1.2
      have iB : ∀ M w, PS M w → Pin gb ob cb B M w := fun M w h => by rw [hPS] at h; exact h.2
      have i0 : ∀ M w, PS M w → Φ M w := fun M w h => by rw [hPS] at h; exact h.1.1.1.1
      rw [← hPS] at cx
      clear hPS
      have hcA := Ctx.cells cx iA
      have hcB := Ctx.cells cx iB
      have hrA : ∀ j, (hj : j < A.length) → A[j].row.length ≤ 1000000 := fun j hj => hr _ (List.mem_of_mem_take (pA.mem_iff.1 (List.getElem_mem hj)))
      refine ⟨p2, _, c2, rfl, R, PS, stP, cx, ?_⟩
      clear cx ihA ihB
      refine exI_mk (fun op on oc iI kI R' Φ' m => ∃ (i k : Nat) (o : List DeltaD) (ds : List Value), iI = i ∧ kI = k ∧ i ≤ A.length ∧ k ≤ B.length ∧ on = o.length ∧ o.length = i + k ∧ o ++ List.merge (A.drop i) (B.drop k) leD = List.merge A B leD ∧ R' = .buf op on oc ds 73 3 :: R ∧ Φ' = (fun M w => PS M w ∧ Elems M w ds o) ∧ m = (A.length - i) + (B.length - k))
        ⟨⟨.buf none 0 0 [] 73 3 :: R, fun M w => PS M w ∧ Elems M w [] ([] : List DeltaD), _, inferInstance, fun w G cx => (cx.nobuf 73 3).weak fun M w h => ⟨h, Elems.nil⟩, 0, 0, [], [], rfl, rfl, Nat.zero_le _, Nat.zero_le _, rfl, rfl, rfl, rfl, rfl, rfl⟩, ?_⟩
      rintro op on oc iI kI R1 Φ1 m _ ⟨i, k, o, ds, rfl, rfl, hi, hk, rfl, hol, hme, rfl, rfl, rfl⟩
      have st2 : Stable (fun M w => PS M w ∧ Elems M w ds o) := inferInstance
      have rowA : ∀ {w : World} {S : List Own} {Ψ : PW}, (hj : i < A.length) → ∀ {q qc}, ca.getD i [] = A[i].cells q qc → Ctx W w S (fun M w => PS M w ∧ Ψ M w) → RowAt w ga (oa + (i : Int).toNat * 3) [.int .i64 A[i].time, .slice q A[i].row.length qc, .int .i64 A[i].n] := fun hj q qc he cx => by rw [Int.toNat_natCast]; exact pin_rowAt (iA _ _ cx.phi.1) hj he
      have rowB : ∀ {w : World} {S : List Own} {Ψ : PW}, (hj : k < B.length) → ∀ {q qc}, cb.getD k [] = B[k].cells q qc → Ctx W w S (fun M w => PS M w ∧ Ψ M w) → RowAt w gb (ob + (k : Int).toNat * 3) [.int .i64 B[k].time, .slice q B[k].row.length qc, .int .i64 B[k].n] := fun hj q qc he cx => by rw [Int.toNat_natCast]; exact pin_rowAt (iB _ _ cx.phi.1) hj he
      refine fun w G cx => ?_
      clear cx
      refine Br.intro (fun hor => fun w G cx => ?_) (fun hnor => fun w G cx => ?_)
      · clear cx
        rw [Bool.or_eq_true] at hor
        refine Br.intro (fun hand => ?_) (fun hnand => ?_)
        · rw [Bool.and_eq_true] at hand
          have hiA : i < A.length := by have := of_decide_eq_true hand.1; omega
          have hkB : k < B.length := by have := of_decide_eq_true hand.2; omega
          obtain ⟨qa, qca, ea, ha1, ha2, ha3, ha4⟩ := hcA i hiA
          obtain ⟨qb, qcb, eb, hb1, hb2, hb3, hb4⟩ := hcB k hkB
          have hsa : ∀ M w, (PS M w ∧ Elems M w ds o) → Sl M w qa A[i].row := fun M w h => pin_row (iA M w h.1) hiA ea
          have hsb : ∀ M w, (PS M w ∧ Elems M w ds o) → Sl M w qb B[k].row := fun M w h => pin_row (iB M w h.1) hkB eb
          refine ⟨_, _, st2, fun w G cx => cx, by omega, ptrK_intro ga oa (hpa (by omega)) ⟨by omega, ptrK_intro gb ob (hpb (by omega)) ⟨_, _, _, _, _, fun w G cx => ⟨_, _, _, _, _, rowA hiA ea cx, rfl⟩, _, _, _, _, _, fun w G cx => ⟨_, _, _, _, _, rowB hkB eb cx, rfl⟩, fun w G cx => (rCompareD_in A[i] B[k] qa qb qca qcb hsa hsb (by have := hrA i hiA; omega)).toI cx ?_⟩⟩⟩
          refine Br.intro (fun hle => ⟨by omega, ptrK_intro ga oa (hpa (by omega)) fun w G cx => ⟨_, _, _, _, _, rowA hiA ea cx, fun kb w G cx => ?_⟩⟩) (fun hgt => ⟨by omega, ptrK_intro gb ob (hpb (by omega)) fun w G cx => ⟨_, _, _, _, _, rowB hkB eb cx, fun kb w G cx => ?_⟩⟩)
          · obtain ⟨p', c', w', hrun, cx'⟩ := push1 (x := A[i]) (fun M w h => rep_delta ha1 ha2 ha3 ha4 (pin_row (iA M w h) hiA ea)) (by omega) cx
            exact ⟨p', _, c', w', hrun, _, _, inferInstance, cx', by unfold I64; omega, _, _, (A.length - (i + 1)) + (B.length - k), inferInstance, fun w G cx => cx, ⟨i + 1, k, o ++ [A[i]], _, by omega, rfl, hiA, hk, rfl, by rw [List.length_append, List.length_singleton]; omega, by rw [← hme, merge_l hiA hkB (of_decide_eq_true hle)]; simp, rfl, rfl, rfl⟩, by omega⟩
          · obtain ⟨p', c', w', hrun, cx'⟩ := push1 (x := B[k]) (fun M w h => rep_delta hb1 hb2 hb3 hb4 (pin_row (iB M w h) hkB eb)) (by omega) cx
            exact ⟨p', _, c', w', hrun, _, _, inferInstance, cx', by unfold I64; omega, _, _, (A.length - i) + (B.length - (k + 1)), inferInstance, fun w G cx => cx, ⟨i, k + 1, o ++ [B[k]], _, rfl, by omega, hi, hkB, rfl, by rw [List.length_append, List.length_singleton]; omega, by rw [← hme, merge_r hiA hkB (of_decide_eq_false hgt)]; simp, rfl, rfl, rfl⟩, by omega⟩
        · rw [Bool.and_eq_false_iff] at hnand
          refine Br.intro (fun hge => ?_) (fun hlt => ?_)
          · have hkB : B.length ≤ k := by have := of_decide_eq_true hge; omega
            have hiA : i < A.length := by rcases hor with h | h <;> have := of_decide_eq_true h <;> omega
            obtain ⟨qa, qca, ea, ha1, ha2, ha3, ha4⟩ := hcA i hiA
            refine ⟨by omega, ptrK_intro ga oa (hpa (by omega)) fun w G cx => ⟨_, _, _, _, _, rowA hiA ea cx, fun kb w G cx => ?_⟩⟩
            obtain ⟨p', c', w', hrun, cx'⟩ := push1 (x := A[i]) (fun M w h => rep_delta ha1 ha2 ha3 ha4 (pin_row (iA M w h) hiA ea)) (by omega) cx
            exact ⟨p', _, c', w', hrun, _, _, inferInstance, cx', by unfold I64; omega, _, _, (A.length - (i + 1)) + (B.length - k), inferInstance, fun w G cx => cx, ⟨i + 1, k, o ++ [A[i]], _, by omega, rfl, hiA, hk, rfl, by rw [List.length_append, List.length_singleton]; omega, by rw [← hme, merge_l0 hiA hkB]; simp, rfl, rfl, rfl⟩, by omega⟩
          · have hkB : k < B.length := by have := of_decide_eq_false hlt; omega
            have hiA : A.length ≤ i := by rcases hnand with h | h <;> have := of_decide_eq_false h <;> omega
            obtain ⟨qb, qcb, eb, hb1, hb2, hb3, hb4⟩ := hcB k hkB
            refine ⟨by omega, ptrK_intro gb ob (hpb (by omega)) fun w G cx => ⟨_, _, _, _, _, rowB hkB eb cx, fun kb w G cx => ?_⟩⟩
            obtain ⟨p', c', w', hrun, cx'⟩ := push1 (x := B[k]) (fun M w h => rep_delta hb1 hb2 hb3 hb4 (pin_row (iB M w h) hkB eb)) (by omega) cx
            exact ⟨p', _, c', w', hrun, _, _, inferInstance, cx', by unfold I64; omega, _, _, (A.length - i) + (B.length - (k + 1)), inferInstance, fun w G cx => cx, ⟨i, k + 1, o ++ [B[k]], _, rfl, by omega, hi, hkB, rfl, by rw [List.length_append, List.length_singleton]; omega, by rw [← hme, merge_r0 hiA hkB]; simp, rfl, rfl, rfl⟩, by omega⟩
      · rw [Bool.or_eq_false_iff] at hnor
        have hiA : i = A.length := by have := of_decide_eq_false hnor.1; omega
        have hkB : k = B.length := by have := of_decide_eq_false hnor.2; omega
        subst hiA; subst hkB
        rw [List.drop_length, List.drop_length, List.nil_merge, List.append_nil] at hme
        have cx := cx.left
        obtain ⟨cx3, hs, _, g5, g6⟩ := Ctx.freeze (α := DeltaD) cx.fst cx.phi.2
        rw [← hme]
        exact ⟨op, oc, rfl, g5, g6, (cx3.add hs).weak fun M w h => ⟨i0 M w h.1, h.2⟩⟩

end Go.Proofs.YtbkpfhhhbhaecaaGreatDoor
end

section
set_option linter.unusedVariables false
set_option linter.unusedSimpArgs false
namespace Go.Proofs.YtbkpfhhhbhaecaaGreatDoor
open Go.Vc


theorem Clone28_sl {Φ : PW} [Stable Φ] (x : DeltaD) (p : Option Addr) (cap : Nat) (n : Int) (hΦ : ∀ M w, Φ M w → Sl M w p x.row) (hlen : x.row.length ≤ 1000000) : GivesSl Φ Tryz.prog F.errataref28_clone #[x.v p cap, .int .i64 n] x.row (fun v => .agg #[.int .i64 x.time, v, .int .i64 n]) := by
  refine gives_sl (Berrataref28_clone_run x.time p x.row.length cap x.n n) fun W R => ?_
  intro _ _
  refine ⟨R, Φ, inferInstance, fun w G cx => cx, fun k => ⟨fun w G cx => cx.drop1, fun w G cx => ?_⟩⟩
  obtain ⟨p', cap', w', cs, hrun, c'⟩ := Ctx.cloned (P := Tryz.prog) (ts := 23) (ty := 23) (kb := #[false, false]) (bytes := 32) (c2 := cap) cx (by kernel_rfl) val_one hΦ (by omega) (by omega)
  refine ⟨_, _, _, _, hrun, .buf p' x.row.length cap' cs 71 3 :: R, _, inferInstance, c', fun w G cx => cx.drop1.fst, fun w G cx => ?_⟩
  obtain ⟨_, g1, g2⟩ := cx.bufLen 0 rfl
  obtain ⟨cx3, hs, _⟩ := Ctx.freeze (α := ValD) cx.fst cx.phi.2
  exact ⟨p', cap', rfl, g1, g2, (cx3.add hs).left⟩

theorem push2 {W w : World} {R G : List Own} {PS Ψ : PW} [Stable PS] [Stable Ψ] {op : Option Addr} {oc : Nat} {ds : List Value} {o : List DeltaD} {x : DeltaD} {q : Option Addr} {qc kb : Nat} (hx : ∀ M w, PS M w → Ψ M w → Gv.rep M w (x.cells q qc) x) (ho : o.length < 10000000)
    (cx : Ctx W w (.blk kb (x.cells q qc) 73 :: .buf op o.length oc ds 73 3 :: R ++ G) (fun M w => (PS M w ∧ Elems M w ds o) ∧ Ψ M w)) :
    ∃ p c w', Sem.run Tryz.prog (builtin Builtin.append #[44, 44] 44 #[false, false] #[.slice op o.length oc, .slice (some ⟨kb, 0, none⟩) 1 1]) w = .ok (.value (.slice p (o ++ [x]).length c)) w' ∧ Ctx W w' (.buf p (o ++ [x]).length c (ds ++ x.cells q qc) 73 3 :: R ++ G) (fun M w => PS M w ∧ Elems M w (ds ++ x.cells q qc) (o ++ [x])) := by
  obtain ⟨p', c', w', h1, h2⟩ := push1 (PS := fun M w => PS M w ∧ Ψ M w) (x := x) (q := q) (qc := qc) (fun M w h => hx M w h.1 h.2) ho (cx.weak fun M w h => ⟨⟨h.1.1, h.2⟩, h.1.2⟩)
  exact ⟨p', c', w', h1, h2.weak fun M w h => ⟨h.1.1, h.2⟩⟩

def dz (x : DeltaD) : DE := ⟨x, none, 0⟩
theorem dz_d (s : List DeltaD) : (s.map dz).map DE.d = s := by
  rw [List.map_map]
  exact List.map_id s
abbrev CO (l s outs : List DeltaD) (i : Nat) : Prop := COuter l (s.map dz) (outs.map dz) i
theorem CO.start {l s : List DeltaD} (h : s.Perm l) : CO l s [] 0 :=
  ⟨Nat.zero_le _, Norm.nil, by simp, fun k => by rw [List.drop_zero, dz_d, dz_d]; exact findP_perm h k, Nat.le_refl _⟩
theorem CO.step {l s outs : List DeltaD} {i : Nat} (h : CO l s outs i) {X : DeltaD} (hX : X ∈ s.drop i) {j : Nat} (hij : i + j ≤ s.length) (hj : 1 ≤ j) (hk : ∀ y ∈ (s.drop i).take j, y.key = X.key) {N : Int} (hN : N = findP ((s.drop i).take j) X.key)
    (hgt : ∀ y ∈ s.drop (i + j), cmpK X.key y.key < 0) : (N = 0 → CO l s outs (i + j)) ∧ (N ≠ 0 → CO l s (outs ++ [⟨X.time, X.row, N⟩]) (i + j)) := by
  have h1 := COuter.step h (X := dz X) (by rw [← List.map_drop]; exact List.mem_map_of_mem hX) (j := j) (by rw [List.length_map]; exact hij) hj
    (fun y hy => by rw [← List.map_drop, ← List.map_take] at hy; obtain ⟨z, hz, rfl⟩ := List.mem_map.1 hy; exact hk z hz) (N := N) (by rw [← List.map_drop, ← List.map_take, dz_d]; exact hN)
    (fun y hy => by rw [← List.map_drop] at hy; obtain ⟨z, hz, rfl⟩ := List.mem_map.1 hy; exact hgt z hz)
  refine ⟨h1.1, fun h0 => ?_⟩
  have := h1.2 h0 none 0
  unfold CO
  rw [List.map_append]
  exact this
theorem CO.end {l s outs : List DeltaD} (h : CO l s outs s.length) : consP l = outs := by
  have h1 := h.norm
  have h2 := h.find
  rw [dz_d] at h1 h2
  refine consP_is h1 fun k => ?_
  have := h2 k
  rwa [← List.map_drop, List.drop_length, List.map_nil, List.map_nil, List.append_nil] at this
theorem CO.few {l s outs : List DeltaD} {i : Nat} (h : CO l s outs i) : outs.length ≤ i := by
  have := COuter.few h
  rwa [List.length_map] at this

set_option maxHeartbeats 4000000 in
theorem Cons28_sl {Φ : PW} [Stable Φ] (p : Option Addr) (cap : Nat) (l : List DeltaD) (hΦ : ∀ M w, Φ M w → Sl M w p l) (hc1 : l.length ≤ cap) (hc2 : cap ≤ maxLen) (hlen : l.length ≤ 1000000) (hrow : Rows1 l) : GivesSl Φ Tryz.prog F.errataref28_Consolidate #[.slice p l.length cap] (consP l) id := by
  refine gives_sl (Berrataref28_Consolidate_run p l.length cap) fun W R => ?_
  refine fun w G cx => (sorted_sl l.length p cap l hΦ (Nat.le_refl _) hc1 hc2 hlen hrow).use cx fun p1 c1 w g1 g2 cx => ?_
  have hperm := srt_perm l.length l
  have hasc := srt_asc l.length l (Nat.le_refl _)
  obtain ⟨s, hs⟩ : ∃ s, srt l.length l = s := ⟨_, rfl⟩
  rw [hs] at cx g1 hperm hasc ⊢
  have hsl := hperm.length_eq
  obtain ⟨g, o, cs, hp, cx⟩ := cx.pin cx.phi.2
  obtain ⟨PS, hPS⟩ : ∃ PS : PW, PS = (fun M w => (Φ M w ∧ Sl M w p1 s) ∧ Pin g o cs s M w) := ⟨_, rfl⟩
  have stP : Stable PS := by rw [hPS]; infer_instance
  have iP : ∀ M w, PS M w → Pin g o cs s M w := fun M w h => by rw [hPS] at h; exact h.2
  have i0 : ∀ M w, PS M w → Φ M w := fun M w h => by rw [hPS] at h; exact h.1.1
  rw [← hPS] at cx
  clear hPS hs
  have hcs := Ctx.cells cx iP
  have hrw : ∀ j, (hj : j < s.length) → s[j].row.length ≤ 1000000 := fun j hj => hrow _ (hperm.mem_iff.1 (List.getElem_mem hj))
  refine ⟨p1, _, c1, rfl, R, PS, stP, cx, ?_⟩
  clear cx
  refine exI_mk (fun op on oc iI R' Φ' m => ∃ (i : Nat) (outs : List DeltaD) (ds : List Value), CO l s outs i ∧ iI = i ∧ i ≤ s.length ∧ on = outs.length ∧ R' = .buf op on oc ds 73 3 :: R ∧ Φ' = (fun M w => PS M w ∧ Elems M w ds outs) ∧ m = s.length - i)
    ⟨⟨.buf none 0 0 [] 73 3 :: R, fun M w => PS M w ∧ Elems M w [] ([] : List DeltaD), _, inferInstance, fun w G cx => (cx.nobuf 73 3).weak fun M w h => ⟨h, Elems.nil⟩, 0, [], [], CO.start hperm, rfl, Nat.zero_le _, rfl, rfl, rfl, rfl⟩, ?_⟩
  rintro op on oc iI R1 Φ1 m _ ⟨i, outs, ds, hco, rfl, hi, rfl, rfl, rfl, rfl⟩
  have st2 : Stable (fun M w => PS M w ∧ Elems M w ds outs) := inferInstance
  refine Br.intro (fun hlt => ?_) (fun hge => fun w G cx => ?_)
  · have hlt : i < s.length := by have := of_decide_eq_true hlt; omega
    obtain ⟨q, qc, he, f1, f2, f3, f4⟩ := hcs i hlt
    obtain ⟨X, hX⟩ : ∃ X, s[i] = X := ⟨_, rfl⟩
    have hXr := hrw i hlt
    have hXd : X ∈ s.drop i := by rw [List.drop_eq_getElem_cons hlt, hX]; simp
    have rowX : ∀ {w : World} {S : List Own}, Ctx W w S (fun M w => PS M w ∧ Elems M w ds outs) → RowAt w g (o + (i : Int).toNat * 3) (X.cells q qc) := fun cx => by rw [Int.toNat_natCast, ← hX]; exact pin_rowAt (iP _ _ cx.phi.1) hlt he
    have slX : ∀ M w, PS M w → Sl M w q X.row := fun M w h => by rw [← hX]; exact pin_row (iP M w h) hlt he
    rw [hX] at f1 f3 f4 hXr
    refine exI_mk (fun n kI R' Φ' m => ∃ j : Nat, kI = ((i + j : Nat) : Int) ∧ i + j ≤ s.length ∧ n = findP ((s.drop i).take j) X.key ∧ (∀ y ∈ (s.drop i).take j, y.key = X.key) ∧ R' = .buf op outs.length oc ds 73 3 :: R ∧ Φ' = (fun M w => PS M w ∧ Elems M w ds outs) ∧ m = s.length - (i + j))
      ⟨⟨_, _, _, st2, fun w G cx => cx, 0, rfl, hi, rfl, (fun y hy => by rw [List.take_zero] at hy; cases hy), rfl, rfl, rfl⟩, ?_⟩
    rintro n kI R2 Φ2 m _ ⟨j, rfl, hj, hn, hkeys, rfl, rfl, rfl⟩
    refine ⟨_, _, st2, fun w G cx => cx, Br.intro (fun hlt2 => ?_) (fun hge2 => ?_)⟩
    case' refine_2 =>
      have hge2 := of_decide_eq_false hge2
      have hj1 : 1 ≤ j := by omega
      have hgt : ∀ y ∈ s.drop (i + j), cmpK X.key y.key < 0 := by
        rw [List.drop_eq_nil_of_le (by omega)]
        intro y hy; cases hy
    case' refine_1 =>
      have hij : i + j < s.length := by have := of_decide_eq_true hlt2; omega
      obtain ⟨q2, qc2, he2, e1, e2, _, _⟩ := hcs (i + j) hij
      have hmin : (min ((i + j : Nat) : Int) ((s.length : Int) - 1)).toNat = i + j := by omega
      have rowY : ∀ {w : World} {S : List Own}, Ctx W w S (fun M w => PS M w ∧ Elems M w ds outs) → RowAt w g (o + (i + j) * 3) (s[i + j].cells q2 qc2) := fun cx => pin_rowAt (iP _ _ cx.phi.1) hij he2
      refine ⟨by omega, ptrK_intro g o (hp (by omega)) ⟨X.time, q, X.row.length, qc, X.n, fun w G cx => ⟨_, _, _, _, _, rowX cx, rfl⟩, by unfold I64; omega, by omega, ptrK_intro g o (hp (by omega)) ⟨s[i + j].time, q2, s[i + j].row.length, qc2, s[i + j].n, fun w G cx => ⟨_, _, _, _, _, by rw [hmin]; exact rowY cx, rfl⟩, fun w G cx => (rCompareD_in X s[i + j] q q2 qc qc2 (fun M w h => slX M w h.1) (fun M w h => pin_row (iP M w h.1) hij he2) (by omega)).toI cx ?_⟩⟩⟩
      refine Br.intro (fun hc => ?_) (fun hc => ?_)
    case' refine_1.refine_1.refine_1 =>
      have hk : s[i + j].key = X.key := by
        have hc := of_decide_eq_true hc
        rw [cmpD_key] at hc
        exact ((cmpK_cmp.eq _ _).1 hc).symm
      have htk : (s.drop i).take (j + 1) = (s.drop i).take j ++ [s[i + j]] := by
        have hlt3 : j < (s.drop i).length := by rw [List.length_drop]; omega
        rw [List.take_succ_eq_append_getElem hlt3, List.getElem_drop]
      refine ⟨by omega, ptrK_intro g o (hp (by omega)) fun w G cx => ⟨s[i + j].n, ?_, by unfold I64; omega, _, _, s.length - (i + (j + 1)), st2, fun w G cx => cx, ⟨j + 1, by omega, by omega, ?_, ?_, rfl, rfl, rfl⟩, by omega⟩⟩
      · have := rowY cx 2 (by simp)
        rw [Int.toNat_natCast]; simpa using this
      · rw [htk, hn]
        exact (find_snoc hk).symm
      · rw [htk]
        intro y hy
        rcases List.mem_append.1 hy with hy | hy
        · exact hkeys y hy
        · rw [List.mem_singleton.1 hy]; exact hk
    case' refine_1.refine_1.refine_2 =>
      have hc := of_decide_eq_false hc
      rw [cmpD_key] at hc
      have hj1 : 1 ≤ j := by
        rcases Nat.eq_zero_or_pos j with h0 | h0
        · exfalso
          subst h0
          apply hc
          have : s[i + 0] = X := by rw [← hX]; rfl
          rw [this, cmpK_cmp.refl]
        · exact h0
      have hgt : ∀ y ∈ s.drop (i + j), cmpK X.key y.key < 0 := by
        have h1 : leD s[i] s[i + j] = true := List.pairwise_iff_getElem.1 hasc i (i + j) hlt hij (by omega)
        rw [hX] at h1
        have h1 : cmpK X.key s[i + j].key < 0 := by
          have h2 : cmpK X.key s[i + j].key ≤ 0 := by rw [← cmpD_key]; exact of_decide_eq_true h1
          omega
        intro y hy
        obtain ⟨r, hr, rfl⟩ := List.getElem_of_mem hy
        rw [List.length_drop] at hr
        rw [List.getElem_drop]
        rcases Nat.eq_zero_or_pos r with h0 | h0
        · subst h0
          exact h1
        · have h2 : leD s[i + j] s[i + j + r] = true := List.pairwise_iff_getElem.1 hasc (i + j) (i + j + r) hij (by omega) (by omega)
          have h2 : cmpK s[i + j].key s[i + j + r].key ≤ 0 := by rw [← cmpD_key]; exact of_decide_eq_true h2
          rcases Int.lt_or_eq_of_le h2 with h3 | h3
          · exact cmpK_cmp.trans _ _ _ h1 h3
          · rw [← (cmpK_cmp.eq _ _).1 h3]; exact h1
      clear hc
    all_goals
      obtain ⟨hz, hnz⟩ := hco.step hXd (by omega) hj1 hkeys hn hgt
      have hfew := hco.few
      refine Br.intro (fun h0 => ⟨by omega, ptrK_intro g o (hp (by omega)) fun w G cx => ⟨X.time, q, X.row.length, qc, X.n, rowX cx, fun w G cx => ?_⟩⟩) (fun h0 => ⟨_, _, s.length - (i + j), st2, fun w G cx => cx, ⟨i + j, outs, ds, hz (by have := of_decide_eq_false h0; omega), rfl, by omega, rfl, rfl, rfl, rfl⟩, by omega⟩)
      have hco2 := hnz (of_decide_eq_true h0)
      refine (Clone28_sl (Φ := fun M w => PS M w ∧ Elems M w ds outs) X q qc n (fun M w h => slX M w h.1) (by omega)).use cx fun p2 c2 w g3 g4 cx => ⟨X.time, p2, X.row.length, c2, n, rfl, .buf op outs.length oc ds 73 3 :: R, _, inferInstance, cx, fun kb w G cx => ?_⟩
      obtain ⟨p', c', w', hrun, cx'⟩ := push2 (x := ⟨X.time, X.row, n⟩) (q := p2) (qc := c2) (Ψ := fun M w => Sl M w p2 X.row) (fun M w _ h => rep_delta g3 g4 f3 (by rw [hn]; exact w64_in _) h) (by omega) cx
      exact ⟨p', _, c', w', hrun, _, _, inferInstance, cx', _, _, s.length - (i + j), inferInstance, fun w G cx => cx, ⟨i + j, _, _, hco2, rfl, by omega, rfl, rfl, rfl, rfl⟩, by omega⟩
  · have hge : i = s.length := by have := of_decide_eq_false hge; omega
    subst hge
    rw [hco.end]
    have cx := cx.left
    obtain ⟨cx3, hs, _, g5, g6⟩ := Ctx.freeze (α := DeltaD) cx.fst cx.phi.2
    exact ⟨op, oc, rfl, g5, g6, (cx3.add hs).weak fun M w h => ⟨i0 M w h.1, h.2⟩⟩

end Go.Proofs.YtbkpfhhhbhaecaaGreatDoor
end

section
set_option linter.unusedVariables false
set_option linter.unusedSimpArgs false
namespace Go.Proofs.YtbkpfhhhbhaecaaGreatDoor
open Go.Vc


theorem subPtr_zero (p : Option Addr) (s m : Nat) : subPtr p s 0 m = p := by
  unfold subPtr
  split
  · rfl
  · cases p with
    | none => rfl
    | some a => simp [Addr.add]

section
variable {Φ : PW} {q : LP} {st : LedD} {W w : World} {R S G : List Own} {p : Option Addr} {cap : Nat} {l : List LineD} {cs : List Value}

theorem src_all (hq : LedQ q st) (hF : ∀ M w, Φ M w → Elems M w q.cs st.lines) : Src (LedO q st) Φ q.lp st.lines q.cs := by
  have h := src_led (Φ := Φ) hq hF 0 st.lines.length (by omega)
  rw [subPtr_zero, Nat.zero_mul, List.drop_zero, List.drop_zero, List.take_length, ← hq.len, List.take_length] at h
  exact h
theorem src_pre (hq : LedQ q st) (hF : ∀ M w, Φ M w → Elems M w q.cs st.lines) (n : Nat) (hn : n ≤ st.lines.length) : Src (LedO q st) Φ (subPtr q.lp 7 0 q.lc) (st.lines.take n) (q.cs.take (n * 7)) := by
  have h := src_led (Φ := Φ) hq hF 0 n (by omega)
  rw [Nat.zero_mul, List.drop_zero, List.drop_zero] at h
  exact h

theorem src_row (src : Src S Φ p l cs) {b o i : Nat} (hp : p = some ⟨b, o, none⟩) (c : Ctx W w (S ++ G) Φ) (hi : i < l.length) : ∃ r rc, RowAt w b (o + i * 7) (l[i].cells r rc) ∧ (cs.drop (i * 7)).take 7 = l[i].cells r rc ∧ l[i].row.length ≤ rc ∧ rc ≤ maxLen ∧ l[i].In := by
  obtain ⟨r, rc, he, h1, h2, h3, _⟩ := lrow (src.el _ _ c.phi) hi
  refine ⟨r, rc, fun j hj => ?_, he, h1, h2, h3⟩
  have := src.rd hp c (i * 7 + j) _ (rows_of (vs := l[i].cells r rc) he j hj)
  rw [← Nat.add_assoc] at this
  exact this
theorem src_sl (src : Src S Φ p l cs) {i : Nat} (hi : i < l.length) {r : Option Addr} {rc : Nat} (he : (cs.drop (i * 7)).take 7 = l[i].cells r rc) {M : List Nat} (h : Φ M w) : Sl M w r l[i].row := by
  have := (src.el M w h).2 i hi
  rw [show (Gv.ty LineD).size = 7 from rfl, he] at this
  exact line_row this

theorem pushLD {PS : PW} [Stable PS] {op : Option Addr} {oc : Nat} {ds : List Value} {o : List DeltaD} {x : LineD} {r : Option Addr} {rc kb : Nat} (hx : ∀ M w, PS M w → Sl M w r x.row) (h1 : x.row.length ≤ rc) (h2 : rc ≤ maxLen) (h3 : x.In) (ho : o.length < 10000000)
    (cx : Ctx W w (.blk kb (x.d.cells r rc) 73 :: .buf op o.length oc ds 73 3 :: R ++ G) (fun M w => PS M w ∧ Elems M w ds o)) :
    ∃ p c w', Sem.run Tryz.prog (builtin Builtin.append #[44, 44] 44 #[false, false] #[.slice op o.length oc, .slice (some ⟨kb, 0, none⟩) 1 1]) w = .ok (.value (.slice p (o ++ [x.d]).length c)) w' ∧ Ctx W w' (.buf p (o ++ [x.d]).length c (ds ++ x.d.cells r rc) 73 3 :: R ++ G) (fun M w => PS M w ∧ Elems M w (ds ++ x.d.cells r rc) (o ++ [x.d])) :=
  push1 (x := x.d) (fun M w h => rep_delta (x := x.d) h1 h2 h3.time h3.n (hx M w h)) ho cx

set_option maxHeartbeats 1000000 in
theorem net_src [Stable Φ] (src : Src S Φ p l cs) (hlen : l.length ≤ 400000) (hrow : ∀ x ∈ l, x.row.length ≤ 1000000) (c : Ctx W w S Φ) :
    Calls Tryz.prog F.ledger_net #[.slice p l.length cap] w fun e w' => ∃ p' c', e = .returned (.slice p' (netP l).length c') ∧ (netP l).length ≤ c' ∧ c' ≤ maxLen ∧ Ctx W w' S (fun M w => Φ M w ∧ Sl M w p' (netP l)) := by
  refine (Bledger_net_run p l.length cap (J := fun v w' => ∃ p' c', v = .slice p' (netP l).length c' ∧ (netP l).length ≤ c' ∧ c' ≤ maxLen ∧ Ctx W w' S (fun M w => Φ M w ∧ Sl M w p' (netP l))) c ?_).mono fun e w' ⟨v, he, p', c', hv, rest⟩ => ⟨p', c', by rw [he, hv], rest⟩
  clear c
  refine exI_mk (fun sp sn sc iI R' Φ' k => ∃ (i : Nat) (ds : List Value), iI = i ∧ i ≤ l.length ∧ sn = ((l.take i).map LineD.d).length ∧ R' = .buf sp sn sc ds 73 3 :: S ∧ Φ' = (fun M w => Φ M w ∧ Elems M w ds ((l.take i).map LineD.d)) ∧ k = l.length - i)
    ⟨⟨.buf none 0 0 [] 73 3 :: S, fun M w => Φ M w ∧ Elems M w [] ((l.take 0).map LineD.d), _, inferInstance, fun w G cx => (cx.weak fun M w h => ⟨h, Elems.nil⟩).nobuf 73 3, 0, [], rfl, Nat.zero_le _, rfl, rfl, rfl, rfl⟩, ?_⟩
  rintro sp _ sc iI R1 Φ1 k _ ⟨i, ds, rfl, hi, rfl, rfl, rfl, rfl⟩
  have hln : ((l.take i).map LineD.d).length = i := by simp; omega
  refine Br.intro (fun hlt => ?_) (fun hge => fun w G cx => ?_)
  · have hlt : i < l.length := by have := of_decide_eq_true hlt; omega
    obtain ⟨b, o, hp⟩ := src.ptr (by omega)
    refine ⟨by omega, ptrK_intro b o hp fun w G cx => ?_⟩
    obtain ⟨r, rc, hr, he, h1, h2, h3⟩ := src_row src hp (Ctx.drop1 cx).fst hlt
    refine ⟨l[i].no, l[i].batch, l[i].time, r, l[i].row.length, rc, l[i].n, l[i].cause, l[i].why, by rw [Int.toNat_natCast]; exact hr, fun _ kb w G cx => ?_⟩
    obtain ⟨p', c', w', hrun, cx'⟩ := pushLD (x := l[i]) (PS := Φ) (fun M w h => src_sl src hlt he h) h1 h2 h3 (by omega) cx
    have htk : (l.take (i + 1)).map LineD.d = (l.take i).map LineD.d ++ [l[i].d] := by rw [List.take_succ_eq_append_getElem hlt, List.map_append]; rfl
    rw [← htk] at hrun cx'
    have hst3 : Stable (fun M w => Φ M w ∧ Elems M w (ds ++ l[i].d.cells r rc) ((l.take (i + 1)).map LineD.d)) := inferInstance
    exact ⟨p', _, c', w', hrun, _, _, hst3, cx', by unfold I64; omega, _, _, l.length - (i + 1), hst3, fun w G cx => cx, ⟨i + 1, _, by omega, hlt, rfl, rfl, rfl, rfl⟩, by omega⟩
  · have hi : i = l.length := by have := of_decide_eq_false hge; omega
    subst hi
    rw [List.take_length] at cx ⊢
    obtain ⟨cx3, hs, _⟩ := Ctx.freeze (α := DeltaD) cx.fst cx.phi.2
    have hst4 : Stable (fun M w => Φ M w ∧ Sl M w sp (l.map LineD.d)) := inferInstance
    refine (Consolidate_sl (Φ := fun M w => Φ M w ∧ Sl M w sp (l.map LineD.d)) sp sc (l.map LineD.d) (fun M w h => h.2) (by simp; omega) (fun x hx => ?_)).use (cx3.add hs) fun p3 c3 w h1 h2 cx => ⟨p3, _, c3, rfl, S, fun M w => Φ M w ∧ Sl M w p3 (netP l), inferInstance, cx.weak fun M w h => ⟨h.1.1, h.2⟩, fun w G cx => ⟨p3, c3, rfl, h1, h2, cx.left⟩⟩
    obtain ⟨y, hy, rfl⟩ := List.mem_map.1 hx
    exact hrow y hy

theorem Net_q [Stable Φ] (hq : LedQ q st) (hs : LedS st) [hF : Has Φ (LF q st)] : GivesQSl (LedO q st) Φ Tryz.prog F.ledger_Ledger_Net #[led q] (netP st.lines) := by
  have := hs.lines
  exact gives_qsl (Bledger_Ledger_Net_run q.lb 0) fun W R => fun w G cx => ⟨_, _, _, led_cell (i := 0) cx rfl, fun w G cx =>
    (net_src (S := (LedO q st ++ R) ++ G) (src_all (Φ := Φ) hq hF.go).app.app (by omega) hs.rows cx).mono fun e w' ⟨p', c', he, h1, h2, cx⟩ => ⟨p', _, c', he, _, _, inferInstance, cx, fun w G cx => ⟨p', c', rfl, h1, h2, cx.left⟩⟩⟩

theorem Lines_q [Stable Φ] (hq : LedQ q st) (hs : LedS st) [hF : Has Φ (LF q st)] : GivesQSl (LedO q st) Φ Tryz.prog F.ledger_Ledger_Lines #[led q] st.lines := by
  have := hs.lines
  exact gives_qsl (Bledger_Ledger_Lines_run q.lb 0) fun W R => fun w G cx => ⟨_, _, _, led_cell (i := 0) cx rfl, fun w G cx =>
    (Cloned_new (S := (LedO q st ++ R) ++ G) (src_all (Φ := Φ) hq hF.go).app.app (by omega) hs.rows cx).mono fun e w' ⟨p', c', cs', he, cx⟩ => by
      obtain ⟨c2, hs, _, h2, h3⟩ := Ctx.freeze (α := LineD) cx cx.phi.2
      exact ⟨p', _, c', he, (LedO q st ++ R), _, inferInstance, (c2.add hs).weak fun M w h => ⟨h.1.1, h.2⟩, fun w G cx => ⟨p', c', rfl, h2, h3, cx.left⟩⟩⟩

theorem net_rows {l : List LineD} (h : ∀ x ∈ l, x.row.length ≤ 1000000) : Rows1 (netP l) := fun z hz => consP_row (P := fun r => r.length ≤ 1000000) (fun x hx => by
  obtain ⟨y, hy, rfl⟩ := List.mem_map.1 hx
  exact h y hy) z hz
theorem net_len (l : List LineD) : (netP l).length ≤ l.length := Nat.le_trans (consP_len _) (by simp)

theorem Upto_q [Stable Φ] {t : Int} (hq : LedQ q st) (hs : LedS st) [hF : Has Φ (LF q st)] : GivesQSl (LedO q st) Φ Tryz.prog F.ledger_Ledger_Upto #[led q, .int .i64 t] (uptoP (netP st.lines) t) := by
  have h1 := hs.lines
  have h2 := net_len st.lines
  exact gives_qsl (Bledger_Ledger_Upto_run q.lb 0 t) fun W R => fun w G cx => (Net_q hq hs).tot cx fun p1 c1 _ _ _ _ => fun w G cx =>
    (Upto_sl (Φ := fun M w => Φ M w ∧ Sl M w p1 (netP st.lines)) p1 c1 (netP st.lines) t (fun M w h => h.2) (by omega) (net_rows hs.rows)).to cx fun p2 c2 g1 g2 _ => fun w G cx => ⟨p2, c2, rfl, g1, g2, cx.left.weak fun M w h => ⟨h.1.1, h.2⟩⟩

def endP : List BatD → Int → Nat → Nat
  | [], _, e => e
  | b :: l, no, e => endP l no (if b.no ≤ no then b.stop else e)
theorem endP_take {l : List BatD} {no : Int} {i : Nat} (h : i < l.length) (e : Nat) : endP (l.take (i + 1)) no e = if l[i].no ≤ no then l[i].stop else endP (l.take i) no e := by
  induction l generalizing i e with
  | nil => simp at h
  | cons b l ih =>
    cases i with
    | zero => rfl
    | succ i => exact ih (i := i) (by simpa using h) _
theorem endP_le {m : Nat} {no : Int} : ∀ {l : List BatD} {e : Nat}, (∀ b ∈ l, b.stop ≤ m) → e ≤ m → endP l no e ≤ m
  | [], e, _, h => h
  | b :: l, e, hl, h => by
    unfold endP
    refine endP_le (fun c hc => hl c (by simp [hc])) ?_
    split
    · exact hl b (by simp)
    · exact h

set_option maxHeartbeats 1000000 in
theorem At_q [Stable Φ] {no : Int} (hq : LedQ q st) (hs : LedS st) [hF : Has Φ (LF q st)] : GivesQSl (LedO q st) Φ Tryz.prog F.ledger_Ledger_At #[led q, .int .i64 no] (netP (st.lines.take (endP st.bats no 0))) := by
  have h1 := hs.lines
  have h3 := hs.bats
  refine gives_qsl (Bledger_Ledger_At_run q.lb 0 no) fun W R => fun w G cx => ⟨_, _, _, led_cell (i := 1) cx rfl, ?_⟩
  clear cx
  refine exI_mk (fun eI iI R' Φ' k => ∃ i : Nat, iI = i ∧ i ≤ st.bats.length ∧ eI = (endP (st.bats.take i) no 0 : Nat) ∧ R' = LedO q st ++ R ∧ Φ' = Φ ∧ k = st.bats.length - i) ⟨⟨_, _, _, inferInstance, fun w G cx => cx, 0, rfl, Nat.zero_le _, rfl, rfl, rfl, rfl⟩, ?_⟩
  rintro eI iI R1 Φ1 k _ ⟨i, rfl, hi, rfl, rfl, rfl, rfl⟩
  refine Br.intro (fun hlt => ?_) (fun hge => fun w G cx => ⟨_, _, _, led_cell (i := 0) cx rfl, ?_⟩)
  · have hlt : i < st.bats.length := by have := of_decide_eq_true hlt; omega
    obtain ⟨g, hg⟩ := hq.bpt (by omega)
    have he := endP_take (no := no) hlt 0
    refine ⟨by omega, ptrK_intro g 0 hg fun w G cx => ⟨st.bats[i].no, st.bats[i].mark, (st.bats[i].stop : Int), by rw [Int.toNat_natCast]; exact led_bat cx hg hlt, fun _ => Br.intro (fun h => ?_) (fun h => ?_)⟩⟩
    · exact ⟨by unfold I64; omega, _, _, st.bats.length - (i + 1), inferInstance, fun w G cx => cx, ⟨i + 1, rfl, hlt, by rw [he, if_pos (of_decide_eq_true h)], rfl, rfl, rfl⟩, by omega⟩
    · exact ⟨by unfold I64; omega, _, _, st.bats.length - (i + 1), inferInstance, fun w G cx => cx, ⟨i + 1, rfl, hlt, by rw [he, if_neg (of_decide_eq_false h)], rfl, rfl, rfl⟩, by omega⟩
  · have hge : i = st.bats.length := by have := of_decide_eq_false hge; omega
    subst hge
    clear cx
    rw [List.take_length]
    have hle := endP_le (no := no) (e := 0) hs.stop (Nat.zero_le _)
    obtain ⟨n, hn⟩ : ∃ n, endP st.bats no 0 = n := ⟨_, rfl⟩
    rw [hn] at hle ⊢
    have hln : (st.lines.take n).length = n := by rw [List.length_take]; omega
    have hrow : ∀ x ∈ st.lines.take n, x.row.length ≤ 1000000 := fun x hx => hs.rows x (List.mem_of_mem_take hx)
    have hlc := hq.lcap.1
    refine ⟨by omega, fun w G cx => ?_⟩
    rw [Int.toNat_natCast]
    have := net_src (cap := q.lc) (S := (LedO q st ++ R) ++ G) (src_pre hq hF.go n hle).app.app (by omega) hrow cx
    rw [hln] at this
    exact this.mono fun e w' ⟨p', c', he, h1, h2, cx⟩ => ⟨p', _, c', he, _, _, inferInstance, cx, fun w G cx => ⟨p', c', rfl, h1, h2, cx.left⟩⟩
end
end Go.Proofs.YtbkpfhhhbhaecaaGreatDoor
end

section
set_option linter.unusedVariables false
set_option linter.unusedSimpArgs false
namespace Go.Proofs.YtbkpfhhhbhaecaaGreatDoor
open Go.Vc


theorem vInt_g (n : Int) : Gives Tryz.prog F.value_Int #[.int .i64 n] (.agg #[.int .i64 0, .int .i64 n, .string (ByteArray.mk #[])]) :=
  gives_of (Bvalue_Int_run n) fun W R Φ _ => fun _ w G c => ⟨rfl, c.left⟩
theorem vText_g (s : ByteArray) : Gives Tryz.prog F.value_Text #[.string s] (.agg #[.int .i64 1, .int .i64 0, .string s]) :=
  gives_of (Bvalue_Text_run s) fun W R Φ _ => fun _ w G c => ⟨rfl, c.left⟩
theorem vBool_g (b : Bool) : Gives Tryz.prog F.value_Bool #[.bool b] (.agg #[.int .i64 2, .int .i64 (if b = true then 1 else 0), .string (ByteArray.mk #[])]) :=
  gives_of (Bvalue_Bool_run b) fun W R Φ _ => fun _ => Br.intro (fun h => fun w G c => ⟨by rw [if_pos h], c.left⟩) (fun h => fun w G c => ⟨by rw [if_neg (by rw [h]; simp)], c.left⟩)

theorem vRight_g (x : ValD) : Gives Tryz.prog F.value_Right #[x.v] (.bool (rightV3 x)) := by
  refine gives_of (Bvalue_Right_run x.kind x.num x.text) fun W R Φ _ => fun _ => Br.intro (fun h => ?_) (fun h => Br.intro (fun h2 => ?_) (fun h2 => ?_))
  · refine ⟨R, Φ, inferInstance, fun w G c => c, fun w G cx => (vInt_g x.num).use cx fun w c => ⟨0, x.num, ByteArray.mk #[], rfl, R, Φ, inferInstance, c, fun w G c => c, by kernel_rfl, fun w G c => ⟨?_, c.left⟩⟩⟩
    have h := of_decide_eq_true h
    unfold rightV3
    rw [if_pos h, decide_eq_true h, decide_eq_true rfl, Bool.true_and, Bool.true_and, Bool.and_true]
  · refine ⟨R, Φ, inferInstance, fun w G c => c, fun w G cx => (vText_g x.text).use cx fun w c => ⟨1, 0, x.text, rfl, R, Φ, inferInstance, c, fun w G c => c, by kernel_rfl, ?_⟩⟩
    have h := of_decide_eq_false h
    have h2 := of_decide_eq_true h2
    refine Br.intro (fun h3 => fun w G c => ⟨?_, c.left⟩) (fun h3 => fun w G c => ⟨?_, c.left⟩)
    · unfold rightV3
      rw [if_neg h, if_pos h2]
      have : x.num = 0 := by simp at h3; exact h3.2
      rw [decide_eq_true this, Bool.true_and]
    · unfold rightV3
      rw [if_neg h, if_pos h2]
      have : x.num ≠ 0 := by
        intro e
        rw [decide_eq_true h2, decide_eq_true e, decide_eq_true rfl] at h3
        cases h3
      rw [decide_eq_false this, Bool.false_and]
  · have h := of_decide_eq_false h
    have h2 := of_decide_eq_false h2
    have hr : rightV3 x = (decide (x.kind = 2) && (decide (x.num = 0) || decide (x.num = 1)) && decide (x.text = ByteArray.mk #[])) := by unfold rightV3; rw [if_neg h, if_neg h2]
    refine ⟨R, Φ, inferInstance, fun w G c => c, fun w G cx => (vBool_g false).use cx fun w c => ⟨2, 0, ByteArray.mk #[], rfl, R, Φ, inferInstance, c, fun w G c => c, R, Φ, inferInstance, fun w G c => c, by kernel_rfl, ?_⟩⟩
    refine Br.intro (fun h3 => fun w G c => ⟨?_, c.left⟩) (fun h3 => fun w G cx => (vBool_g true).use cx fun w c => ⟨2, 1, ByteArray.mk #[], rfl, R, Φ, inferInstance, c, fun w G c => c, by kernel_rfl, fun w G c => ⟨?_, c.left⟩⟩)
    · rw [hr]
      simp at h3
      simp [h3]
    · rw [hr]
      congr 1
      by_cases k1 : x.kind = 2
      · by_cases k2 : x.text = ByteArray.mk #[]
        · by_cases k3 : x.num = 0
          · rw [k1, k2, k3] at h3
            simp at h3
          · simp [k1, k2, k3]
        · simp [k2]
      · simp [k1]

section
variable {Φ : PW} {q : LP} {st : LedD} {W w : World} {R S G : List Own} {p : Option Addr} {cap : Nat} {r : List ValD}

theorem all1_g (x : ValD) : Gives Tryz.prog F.value_all_1 #[x.v] (.bool (!rightV3 x)) :=
  gives_of (Bvalue_all_1_run x.kind x.num x.text) fun W R Φ _ => fun _ w G cx => (vRight_g x).use cx fun w c => ⟨_, rfl, R, Φ, inferInstance, c, fun w G c => ⟨rfl, c.left⟩⟩

theorem IndexV_in [Stable Φ] (f : FuncId) (g : ValD → Bool) [hΦ : Has Φ (fun M w => Sl M w p r)] (hlen : r.length ≤ maxLen) (hf : okFun Tryz.prog f = true) (cp : Array Value) (hg : ∀ x : ValD, Gives Tryz.prog f (Array.mk (x.v :: cp.toList)) (.bool (g x))) :
    GivesIn Φ Tryz.prog F.slices_IndexFunc_api_Value_api_Value #[.slice p r.length cap, .func (.func f) #[] cp] (.int .i64 (findI g 0 r)) := by
  refine .there (fun M w h => (hΦ.go M w h).there) fun hth => ?_
  refine gives_in (Bslices_IndexFunc_api_Value_api_Value_run p r.length cap f cp) fun W R => ?_
  refine exI_mk (fun n R' Φ' k => ∃ i : Nat, n = i ∧ i ≤ r.length ∧ R' = R ∧ Φ' = Φ ∧ k = r.length - i ∧ findI g 0 r = findI g i (r.drop i)) ⟨⟨R, Φ, _, inferInstance, fun w F c => c, 0, rfl, Nat.zero_le _, rfl, rfl, rfl, rfl⟩, ?_⟩
  rintro n R1 Φ1 k _ ⟨i, rfl, hi, rfl, rfl, rfl, hor⟩
  refine Br.intro (fun hlt => ?_) (fun hge => fun w F cx => ⟨?_, cx.left⟩)
  · have hlt : i < r.length := by simpa using hlt
    rw [findI_drop g r i hlt] at hor
    obtain ⟨b, o, rfl⟩ := hth (by omega)
    refine ⟨by omega, ptrK_intro b o rfl fun w F cx => ⟨r[i].kind, r[i].num, r[i].text, by rw [Int.toNat_natCast]; exact sl_val (hΦ.go _ _ cx.phi) hlt, fun w F cx => ⟨hf, (hg r[i]).use cx fun w cx => ⟨g r[i], rfl, R1, Φ1, inferInstance, cx, Br.intro (fun h => fun w F cx => ⟨?_, cx.left⟩) (fun h => ⟨by unfold I64; unfold maxLen at hlen; omega, R1, Φ1, r.length - (i + 1), inferInstance, fun w F c => c, ⟨i + 1, rfl, hlt, rfl, rfl, rfl, ?_⟩, by omega⟩)⟩⟩⟩⟩
    · rw [hor, if_pos h]
    · rw [hor, if_neg (by rw [h]; simp)]
  · have hge : i = r.length := Nat.le_antisymm hi (by simpa using hge)
    rw [hor, hge, List.drop_length]
    rfl

theorem RightRow_in [Stable Φ] [hΦ : Has Φ (fun M w => Sl M w p r)] : GivesIn Φ Tryz.prog F.value_RightRow #[.slice p r.length cap] (.bool (rightR r)) := by
  refine gives_in (Bvalue_RightRow_run p r.length cap) fun W R => Br.intro (fun h => ?_) (fun h => fun w G cx => ⟨?_, cx.left⟩)
  · have h1 := of_decide_eq_true h
    have hml : r.length ≤ maxLen := by have h2 : (12 : Nat) ≤ maxLen := (by decide); omega
    have hcon : GivesIn Φ Tryz.prog F.slices_ContainsFunc_api_Value_api_Value #[.slice p r.length cap, .func (.func F.value_all_1) #[] #[]] (.bool (r.any fun x => !rightV3 x)) := by
      refine gives_in (Bslices_ContainsFunc_api_Value_api_Value_run p r.length cap F.value_all_1 #[]) fun W R => ?_
      exact fun w G cx => (IndexV_in (r := r) F.value_all_1 (fun x => !rightV3 x) hml (by kernel_rfl) #[] all1_g).toI cx fun w G cx => ⟨by rw [findI_any], cx.left⟩
    have hall : GivesIn Φ Tryz.prog F.value_all #[.slice p r.length cap] (.bool (r.all rightV3)) := by
      refine gives_in (Bvalue_all_run p r.length cap) fun W R => ?_
      refine fun w G cx => hcon.toB cx fun w G cx => ⟨?_, cx.left⟩
      rw [List.all_eq_not_any_not]
    refine fun w G cx => hall.toB cx fun w G cx => ⟨?_, cx.left⟩
    unfold rightR
    rw [decide_eq_true h1, Bool.true_and]
  · unfold rightR
    rw [decide_eq_false (of_decide_eq_false h), Bool.false_and]

def causedP (x : LineD) (mark : Int) : Bool :=
  if x.cause = 0 then decide (mark < x.time) && decide (x.why = 0) else if x.cause = 1 then decide (x.time ≤ mark) && decide (x.why = 0) else if x.cause = 2 then decide (0 < x.why) else false
def ascP (x y : LineD) : Bool := decide (x.time < y.time) || (decide (x.time = y.time) && decide (cmpR x.row y.row < 0))

theorem caused_in [Stable Φ] (x : LineD) (r : Option Addr) (rc : Nat) (mark : Int) : GivesIn Φ Tryz.prog F.ledger_caused #[x.v r rc, .int .i64 mark] (.bool (causedP x mark)) := by
  refine gives_in (Bledger_caused_run x.no x.batch x.time r x.row.length rc x.n x.cause x.why mark) fun W R => fun _ => ?_
  unfold causedP
  refine Br.intro (fun h => fun w G cx => fun w G cx => ⟨by rw [if_pos (of_decide_eq_true h)], cx.left⟩) (fun h => ?_)
  rw [if_neg (of_decide_eq_false h)]
  refine Br.intro (fun h => fun w G cx => fun w G cx => ⟨by rw [if_pos (of_decide_eq_true h)], cx.left⟩) (fun h => ?_)
  rw [if_neg (of_decide_eq_false h)]
  refine Br.intro (fun h => fun w G cx => ⟨by rw [if_pos (of_decide_eq_true h)], cx.left⟩) (fun h => fun w G cx => ⟨by rw [if_neg (of_decide_eq_false h)], cx.left⟩)

theorem asc_in [Stable Φ] (x y : LineD) (r : Option Addr) (rc : Nat) (s : Option Addr) (sc : Nat) [hX : Has Φ (fun M w => Sl M w r x.row)] [hY : Has Φ (fun M w => Sl M w s y.row)] (hlen : x.row.length ≤ 1000000) : GivesIn Φ Tryz.prog F.ledger_ascends #[x.v r rc, y.v s sc] (.bool (ascP x y)) := by
  refine gives_in (Bledger_ascends_run x.no x.batch x.time r x.row.length rc x.n x.cause x.why y.no y.batch y.time s y.row.length sc y.n y.cause y.why) fun W R => fun _ _ => ?_
  unfold ascP
  refine Br.intro (fun h => fun w G cx => ⟨by rw [h]; rfl, cx.left⟩) (fun h => Br.intro (fun h2 => fun w G cx => (CompareRows_in r s rc sc x.row y.row hX.go hY.go (by omega)).toI cx fun w G cx => ⟨by rw [h, h2]; rfl, cx.left⟩) (fun h2 => fun w G cx => ⟨by rw [h, h2]; rfl, cx.left⟩))

theorem at_use [Stable Φ] (x : LineD) (r : Option Addr) (rc : Nat) [hT : Has Φ TabI] [hX : Has Φ (fun M w => Sl M w r x.row)] (hlen : x.row.length ≤ 1000000) (ht : ∀ v ∈ x.row, v.text.size ≤ 10000) (c : Ctx W w (R ++ G) Φ) {K : Int → ByteArray → List Own → PW → Prop} (hk : K x.at.1 x.at.2 R Φ) :
    Calls Tryz.prog F.ledger_at #[x.v r rc] w fun e w' => ∃ n s, e = .returned (.agg #[.int .i64 n, .string s]) ∧ ∃ R' Φ', Stable Φ' ∧ Ctx W w' (R' ++ G) Φ' ∧ K n s R' Φ' := by
  refine (Bledger_at_run x.no x.batch x.time r x.row.length rc x.n x.cause x.why (J := fun v w' => v = .agg #[.int .i64 x.at.1, .string x.at.2] ∧ Ctx W w' (R ++ G) Φ) c ?_).mono fun e w' ⟨v, he, hv, c'⟩ => ⟨_, _, by rw [he, hv], R, Φ, inferInstance, c', hk⟩
  clear c
  refine fun _ _ => ⟨R ++ G, Φ, inferInstance, fun w G2 cx => cx, fun w G2 cx => (RowBytes_in r rc x.row hT.go hX.go hlen ht).toS cx ⟨fun w G2 cx => cx, fun w G2 cx => ⟨rfl, cx.left⟩⟩⟩

theorem check1_in [Stable Φ] (x : LineD) (r : Option Addr) (rc : Nat) [hX : Has Φ (fun M w => Sl M w r x.row)] : GivesIn Φ Tryz.prog F.ledger_Ledger_check_1 (Array.mk (x.v r rc :: [])) (.bool (!rightR x.row)) :=
  gives_in (Bledger_Ledger_check_1_run x.no x.batch x.time r x.row.length rc x.n x.cause x.why) fun W R => fun _ w G cx => (RightRow_in (r := x.row)).toB cx fun w G cx => ⟨rfl, cx.left⟩
end
end Go.Proofs.YtbkpfhhhbhaecaaGreatDoor
end

section
set_option linter.unusedVariables false
set_option linter.unusedSimpArgs false
namespace Go.Proofs.YtbkpfhhhbhaecaaGreatDoor
open Go.Vc


def okLine (nx no mark lm : Int) (x : LineD) : Bool := decide (x.no = nx) && decide (x.batch = no) && decide (0 ≤ x.time) && decide (x.time ≤ mark) && decide (x.n ≠ 0) && causedP x lm
def ascO : Option LineD → LineD → Bool
  | none, _ => true
  | some y, x => ascP y x
def okFrom (no mark lm : Int) : Int → Option LineD → List LineD → Bool
  | _, _, [] => true
  | nx, pv, x :: l => okLine nx no mark lm x && ascO pv x && okFrom no mark lm (nx + 1) (some x) l
def prevAt (L : List LineD) (i : Nat) : Option LineD := if i = 0 then none else L[i - 1]?
theorem okFrom_drop {no mark lm nx : Int} {L : List LineD} {i : Nat} (h : i < L.length) : okFrom no mark lm (nx + i) (prevAt L i) (L.drop i) = (okLine (nx + i) no mark lm L[i] && ascO (prevAt L i) L[i] && okFrom no mark lm (nx + ((i + 1 : Nat) : Int)) (prevAt L (i + 1)) (L.drop (i + 1))) := by
  rw [List.drop_eq_getElem_cons h]
  have e : prevAt L (i + 1) = some L[i] := by unfold prevAt; rw [if_neg (by omega), Nat.add_sub_cancel, List.getElem?_eq_getElem h]
  rw [e, show nx + ((i + 1 : Nat) : Int) = nx + i + 1 by omega]
  rfl
def overP (st : LedD) (x : LineD) : Bool := decide (x.n < 0 - cntL st.lines x.at) || decide (1152921504606846976 - cntL st.lines x.at < x.n)
def checkP (st : LedD) (no mark : Int) (L : List LineD) : Int :=
  if no ≤ (lastP st).no then 25 else if mark < (lastP st).mark then 25 else if 1099511627776 < mark then 25
  else if okFrom no mark (lastP st).mark (st.lines.length + 1) none L = false then 1
  else if (L.any fun x => !rightR x.row) = true then 16 else if L.any (overP st) = true then 7 else 0

theorem right_text {r : List ValD} (h : rightR r = true) : ∀ v ∈ r, v.text.size ≤ 10000 := fun v hv => by
  unfold rightR at h
  rw [Bool.and_eq_true] at h
  have h := List.all_eq_true.1 h.2 v hv
  unfold rightV3 at h
  split at h
  · have h := of_decide_eq_true h
    rw [h]; decide
  · split at h
    · rw [Bool.and_eq_true] at h
      have := of_decide_eq_true h.2
      omega
    · rw [Bool.and_eq_true] at h
      have h := of_decide_eq_true h.2
      rw [h]; decide
def CntOk (st : LedD) : Prop := ∀ k, 0 ≤ cntL st.lines k ∧ cntL st.lines k ≤ 1152921504606846976

section
variable {Φ : PW} {q : LP} {st : LedD} {W w : World} {R S G : List Own} {p : Option Addr} {cap : Nat} {L : List LineD} {cs : List Value}

abbrev Rows7 (cs : List Value) (l : List LineD) : Prop := ∀ i (h : i < l.length), ∃ r rc, (cs.drop (i * 7)).take 7 = l[i].cells r rc ∧ l[i].row.length ≤ rc ∧ rc ≤ maxLen ∧ l[i].In
theorem rows7 {M : List Nat} (h : Elems M w cs L) : Rows7 cs L := fun i hi => by
  obtain ⟨r, rc, he, h1, h2, h3, _⟩ := lrow h hi
  exact ⟨r, rc, he, h1, h2, h3⟩
theorem src_at (src : Src S Φ p L cs) {b o i : Nat} (hp : p = some ⟨b, o, none⟩) (c : Ctx W w (S ++ G) Φ) {x : LineD} {r : Option Addr} {rc : Nat} (he : (cs.drop (i * 7)).take 7 = x.cells r rc) : RowAt w b (o + i * 7) (x.cells r rc) := fun j hj => by
  have := src.rd hp c (i * 7 + j) _ (rows_of (vs := x.cells r rc) he j hj)
  rw [← Nat.add_assoc] at this
  exact this

theorem IndexL_in [Stable Φ] (src : Src [] Φ p L cs) (hc : Rows7 cs L) (hlen : L.length ≤ 1000000) : GivesIn Φ Tryz.prog F.slices_ContainsFunc_api_Line_api_Line #[.slice p L.length cap, .func (.func F.ledger_Ledger_check_1) #[] #[]] (.bool (L.any fun x => !rightR x.row)) := by
  have hidx : GivesIn Φ Tryz.prog F.slices_IndexFunc_api_Line_api_Line #[.slice p L.length cap, .func (.func F.ledger_Ledger_check_1) #[] #[]] (.int .i64 (findI (fun x => !rightR x.row) 0 L)) := by
    refine gives_in (Bslices_IndexFunc_api_Line_api_Line_run p L.length cap F.ledger_Ledger_check_1 #[]) fun W R => ?_
    refine exI_mk (fun n R' Φ' k => ∃ i : Nat, n = i ∧ i ≤ L.length ∧ R' = R ∧ Φ' = Φ ∧ k = L.length - i ∧ findI (fun x : LineD => !rightR x.row) 0 L = findI (fun x : LineD => !rightR x.row) i (L.drop i)) ⟨⟨R, Φ, _, inferInstance, fun w F c => c, 0, rfl, Nat.zero_le _, rfl, rfl, rfl, rfl⟩, ?_⟩
    rintro n R1 Φ1 k _ ⟨i, rfl, hi, rfl, rfl, rfl, hor⟩
    refine Br.intro (fun hlt => ?_) (fun hge => fun w F cx => ⟨?_, cx.left⟩)
    · have hlt : i < L.length := by simpa using hlt
      rw [findI_drop _ L i hlt] at hor
      obtain ⟨b, o, hp⟩ := src.ptr (by omega)
      obtain ⟨r, rc, he, h1, h2, h3⟩ := hc i hlt
      have hh : Has Φ1 (fun M w => Sl M w r L[i].row) := ⟨fun M w h => src_sl src hlt he h⟩
      refine ⟨by omega, ptrK_intro b o hp fun w F cx => ⟨L[i].no, L[i].batch, L[i].time, r, L[i].row.length, rc, L[i].n, L[i].cause, L[i].why, by rw [Int.toNat_natCast]; exact src_at (G := R1 ++ F) src hp cx he, fun w F cx => ⟨by kernel_rfl, (check1_in L[i] r rc).use cx fun w cx => ⟨!rightR L[i].row, rfl, R1, Φ1, inferInstance, cx, Br.intro (fun h => fun w F cx => ⟨?_, cx.left⟩) (fun h => ⟨by unfold I64; omega, R1, Φ1, L.length - (i + 1), inferInstance, fun w F c => c, ⟨i + 1, rfl, hlt, rfl, rfl, rfl, ?_⟩, by omega⟩)⟩⟩⟩⟩
      · rw [hor, if_pos h]
      · rw [hor, if_neg (by rw [h]; simp)]
    · have hge : i = L.length := Nat.le_antisymm hi (by simpa using hge)
      rw [hor, hge, List.drop_length]
      rfl
  refine gives_in (Bslices_ContainsFunc_api_Line_api_Line_run p L.length cap F.ledger_Ledger_check_1 #[]) fun W R => ?_
  exact fun w G cx => hidx.toI cx fun w G cx => ⟨by rw [findI_any], cx.left⟩

set_option maxHeartbeats 4000000 in
theorem Check_q [Stable Φ] {no mark : Int} [hT : Has Φ TabI] (hq : LedQ q st) (hs : LedS st) (hk : CntOk st) (src : Src [] Φ p L cs) (hlen : L.length ≤ 1000000) (hrow : ∀ x ∈ L, x.row.length ≤ 1000000) :
    GivesQ (LedO q st) Φ Tryz.prog F.ledger_Ledger_check #[led q, .int .i64 no, .int .i64 mark, .slice p L.length cap] (.int .i64 (checkP st no mark L)) := by
  have hsl := hs.lines
  refine gives_q (Bledger_Ledger_check_run q.lb 0 no mark p L.length cap) fun W R => fun w G cx => ?_
  have hc : Rows7 cs L := rows7 (src.el _ _ cx.phi)
  refine (Last_q hq hs).toI cx ?_
  clear cx
  unfold checkP
  refine Br.intro (fun h => fun w G cx => ⟨by rw [if_pos (of_decide_eq_true h)], cx.left⟩) (fun h => ?_)
  rw [if_neg (of_decide_eq_false h)]
  refine fun w G cx => (Mark_q hq hs).toI cx ?_
  clear cx
  refine Br.intro (fun h => fun w G cx => ⟨by rw [if_pos (of_decide_eq_true h)], cx.left⟩) (fun h => ?_)
  rw [if_neg (of_decide_eq_false h)]
  refine Br.intro (fun h => fun w G cx => ⟨by rw [if_pos (of_decide_eq_true h)], cx.left⟩) (fun h => ?_)
  rw [if_neg (of_decide_eq_false h)]
  have hsrcR : ∀ {i : Nat} (hi : i < L.length) {r : Option Addr} {rc : Nat}, (cs.drop (i * 7)).take 7 = L[i].cells r rc → Has Φ (fun M w => Sl M w r L[i].row) := fun {i} hi {r rc} he => ⟨fun M w h => src_sl src hi he h⟩
  obtain ⟨lm, hlm⟩ : ∃ lm, (lastP st).mark = lm := ⟨_, rfl⟩
  rw [hlm]
  refine exI_mk (fun iI R' Φ' k => ∃ i : Nat, iI = i ∧ i ≤ L.length ∧ R' = LedO q st ++ R ∧ Φ' = Φ ∧ k = L.length - i ∧ okFrom no mark lm (st.lines.length + 1) none L = okFrom no mark lm (((st.lines.length : Int) + 1) + i) (prevAt L i) (L.drop i)) ⟨⟨_, _, _, inferInstance, fun w G cx => cx, 0, rfl, Nat.zero_le _, rfl, rfl, rfl, ?_⟩, ?_⟩
  · rw [Int.natCast_zero, Int.add_zero]; rfl
  rintro iI R1 Φ1 k _ ⟨i, rfl, hi, rfl, rfl, rfl, hor⟩
  refine Br.intro (fun hlt => ?_) (fun hge => fun w G cx => ?_)
  · have hlt : i < L.length := by have := of_decide_eq_true hlt; omega
    obtain ⟨b, o, hp⟩ := src.ptr (by omega)
    obtain ⟨r, rc, he, h1, h2, h3⟩ := hc i hlt
    have hhi := hsrcR hlt he
    rw [okFrom_drop hlt] at hor
    have bad : (okLine (((st.lines.length : Int) + 1) + i) no mark lm L[i] && ascO (prevAt L i) L[i]) = false → okFrom no mark lm (st.lines.length + 1) none L = false := fun h => by rw [hor, h, Bool.false_and]
    have stop : okFrom no mark lm (st.lines.length + 1) none L = false → ∀ {w : World} {G : List Own}, Ctx W w ((LedO q st ++ R) ++ G) Φ1 → (Value.int .i64 1) = .int .i64 (if okFrom no mark lm (st.lines.length + 1) none L = false then 1 else if (L.any fun x => !rightR x.row) = true then 16 else if L.any (overP st) = true then 7 else 0) ∧ Ctx W w (LedO q st ++ R) Φ1 := fun h {w G} cx => ⟨by rw [if_pos h], cx.left⟩
    refine ⟨by omega, ptrK_intro b o hp fun w G cx => ⟨L[i].no, L[i].batch, L[i].time, r, L[i].row.length, rc, L[i].n, L[i].cause, L[i].why, by rw [Int.toNat_natCast]; exact src_at (G := (LedO q st ++ R) ++ G) src hp cx he, fun _ => ⟨LedO q st ++ R, Φ1, inferInstance, fun w G cx => cx, fun w G cx => (Next_q hs).toI cx ⟨fun w G cx => cx, by unfold I64; omega, ?_⟩⟩⟩⟩
    clear cx
    refine Br.intro (fun h => ⟨LedO q st ++ R, Φ1, inferInstance, fun w G cx => cx, fun w G cx => stop (bad ?_) cx⟩) (fun g1 => ?_)
    · unfold okLine; rw [decide_eq_false (of_decide_eq_true h)]; rfl
    refine Br.intro (fun h => ⟨LedO q st ++ R, Φ1, inferInstance, fun w G cx => cx, fun w G cx => stop (bad ?_) cx⟩) (fun g2 => ?_)
    · unfold okLine; rw [decide_eq_false (of_decide_eq_true h)]; simp
    refine Br.intro (fun h => ⟨LedO q st ++ R, Φ1, inferInstance, fun w G cx => cx, fun w G cx => stop (bad ?_) cx⟩) (fun g3 => ?_)
    · unfold okLine; rw [decide_eq_false (p := 0 ≤ L[i].time) (by have := of_decide_eq_true h; omega)]; simp
    refine Br.intro (fun h => ⟨LedO q st ++ R, Φ1, inferInstance, fun w G cx => cx, fun w G cx => stop (bad ?_) cx⟩) (fun g4 => ?_)
    · unfold okLine; rw [decide_eq_false (p := L[i].time ≤ mark) (by have := of_decide_eq_true h; omega)]; simp
    refine Br.intro (fun h => ⟨LedO q st ++ R, Φ1, inferInstance, fun w G cx => cx, fun w G cx => stop (bad ?_) cx⟩) (fun g5 => ?_)
    · unfold okLine; rw [decide_eq_false (p := L[i].n ≠ 0) (fun e => e (of_decide_eq_true h))]; simp
    have hokl : okLine (((st.lines.length : Int) + 1) + i) no mark lm L[i] = causedP L[i] lm := by
      unfold okLine
      rw [decide_eq_true (Decidable.not_not.1 (of_decide_eq_false g1)), decide_eq_true (Decidable.not_not.1 (of_decide_eq_false g2)), decide_eq_true (p := 0 ≤ L[i].time) (by have := of_decide_eq_false g3; omega), decide_eq_true (p := L[i].time ≤ mark) (by have := of_decide_eq_false g4; omega), decide_eq_true (p := L[i].n ≠ 0) (of_decide_eq_false g5)]
      rfl
    refine fun w G cx => (Mark_q hq hs).toI cx ?_
    clear cx
    rw [hlm]
    refine ⟨fun w G cx => cx, fun w G cx => (caused_in L[i] r rc lm).toB cx ⟨LedO q st ++ R, Φ1, inferInstance, fun w G cx => cx, ?_⟩⟩
    clear cx
    refine Br.intro (fun h => fun w G cx => stop (bad ?_) cx) (fun g6 => ?_)
    · rw [hokl, show causedP L[i] lm = false by simpa using h]; rfl
    have g6 : causedP L[i] lm = true := by simpa using g6
    refine Br.intro (fun g7 => ?_) (fun g7 => ?_)
    · have g7 : 0 < i := by have := of_decide_eq_true g7; omega
      have hi0 : i - 1 < L.length := by omega
      obtain ⟨r0, rc0, he0, k1, k2, k3⟩ := hc (i - 1) (by omega)
      have hh0 := hsrcR (i := i - 1) (by omega) he0
      have hpv : prevAt L i = some (L[i - 1]'hi0) := by unfold prevAt; rw [if_neg (by omega), List.getElem?_eq_getElem (by omega)]
      refine ⟨by unfold I64; omega, by omega, ptrK_intro b o hp ⟨(L[i - 1]'hi0).no, (L[i - 1]'hi0).batch, (L[i - 1]'hi0).time, r0, (L[i - 1]'hi0).row.length, rc0, (L[i - 1]'hi0).n, (L[i - 1]'hi0).cause, (L[i - 1]'hi0).why, fun w G cx => ⟨_, _, _, _, _, _, _, _, _, by rw [show ((i : Int) - 1).toNat = i - 1 by omega]; exact src_at (G := (LedO q st ++ R) ++ G) src hp cx he0, rfl⟩, fun w G cx => (asc_in (L[i - 1]'hi0) L[i] r0 rc0 r rc (hrow _ (List.getElem_mem _))).toB cx ?_⟩⟩
      clear cx
      refine Br.intro (fun h => fun w G cx => stop (bad ?_) cx) (fun g8 => ⟨by unfold I64; omega, _, _, L.length - (i + 1), inferInstance, fun w G cx => cx, ⟨i + 1, rfl, hlt, rfl, rfl, rfl, ?_⟩, by omega⟩)
      · rw [hpv]
        show (_ && ascP _ _) = false
        rw [show ascP (L[i - 1]'hi0) L[i] = false by simpa using h, Bool.and_false]
      · rw [hor, hokl, g6, hpv]
        show (true && ascP _ _ && _) = _
        rw [show ascP (L[i - 1]'hi0) L[i] = true by simpa using g8]
        rfl
    · have g7 : i = 0 := by have := of_decide_eq_false g7; omega
      refine ⟨by unfold I64; omega, _, _, L.length - (i + 1), inferInstance, fun w G cx => cx, ⟨i + 1, rfl, hlt, rfl, rfl, rfl, ?_⟩, by omega⟩
      have hpv : prevAt L i = none := by unfold prevAt; rw [if_pos g7]
      rw [hor, hokl, g6, hpv]
      rfl
  have hge : i = L.length := by have := of_decide_eq_false hge; omega
  subst hge
  rw [List.drop_length] at hor
  have hor : okFrom no mark lm (st.lines.length + 1) none L = true := hor
  rw [if_neg (by rw [hor]; simp)]
  refine (IndexL_in src hc hlen).toB cx ?_
  clear cx
  refine Br.intro (fun h => fun w G cx => ⟨by rw [if_pos h], cx.left⟩) (fun h => ?_)
  rw [if_neg (by rw [h]; simp)]
  refine exI_mk (fun iI R' Φ' k => ∃ i : Nat, iI = i ∧ i ≤ L.length ∧ R' = LedO q st ++ R ∧ Φ' = Φ1 ∧ k = L.length - i ∧ L.any (overP st) = (L.drop i).any (overP st)) ⟨⟨_, _, _, inferInstance, fun w G cx => cx, 0, rfl, Nat.zero_le _, rfl, rfl, rfl, rfl⟩, ?_⟩
  rintro iI R1 Φ2 k _ ⟨i, rfl, hi, rfl, rfl, rfl, hov⟩
  refine Br.intro (fun hlt => ?_) (fun hge => fun w G cx => ⟨?_, cx.left⟩)
  · have hlt : i < L.length := by have := of_decide_eq_true hlt; omega
    obtain ⟨b, o, hp⟩ := src.ptr (by omega)
    obtain ⟨r, rc, he, h1, h2, h3⟩ := hc i hlt
    have hhi := hsrcR hlt he
    rw [List.drop_eq_getElem_cons hlt, List.any_cons] at hov
    obtain ⟨c1, c2⟩ := hk L[i].at
    have hcnt := hq.cnt L[i].at
    refine ⟨by omega, ptrK_intro b o hp fun w G cx => ⟨L[i].no, L[i].batch, L[i].time, r, L[i].row.length, rc, L[i].n, L[i].cause, L[i].why, by rw [Int.toNat_natCast]; exact src_at (G := (LedO q st ++ R) ++ G) src hp cx he, fun _ => ⟨LedO q st ++ R, Φ2, inferInstance, fun w G cx => cx, some q.mb, fun w G cx => ⟨some q.mb, led_cell (i := 2) cx rfl, rfl⟩, fun w G cx => ?_⟩⟩⟩
    refine at_use L[i] r rc (hrow _ (List.getElem_mem _)) (right_text (by simpa using List.any_eq_false.1 h _ (List.getElem_mem hlt))) cx ⟨fun w G cx => cx, fun w G cx => ⟨getM q.es L[i].at, fun w2 hw2 => run_lookupM keyTy (by rw [hw2]; exact led_map cx) L[i].at, fun w G cx => ?_⟩⟩
    clear cx
    rw [hcnt]
    refine ⟨by unfold I64; omega, fun _ => by unfold I64; omega, ?_⟩
    have hoi : (decide (L[i].n < 0 - cntL st.lines L[i].at) || decide (1152921504606846976 - cntL st.lines L[i].at < L[i].n)) = overP st L[i] := rfl
    rw [hoi]
    refine Br.intro (fun h => fun w G cx => ⟨by rw [hov, h]; rfl, cx.left⟩) (fun h => ⟨by unfold I64; omega, _, _, L.length - (i + 1), inferInstance, fun w G cx => cx, ⟨i + 1, rfl, hlt, rfl, rfl, rfl, by rw [hov, h]; rfl⟩, by omega⟩)
  · have hge : i = L.length := by have := of_decide_eq_false hge; omega
    subst hge
    rw [List.drop_length] at hov
    rw [hov]; rfl
end
end Go.Proofs.YtbkpfhhhbhaecaaGreatDoor
end

section
set_option linter.unusedVariables false
set_option linter.unusedSimpArgs false
namespace Go.Vc
def ErrAt (g : Nat) : PW := fun M w => g ∉ M ∧ ∃ ev, w.cell? ⟨g, 0, none⟩ = some ev ∧ (ev = .nilIface ∨ ∃ te pe, ev = .iface te pe)
instance instStableErrAt (g : Nat) : Stable (ErrAt g) := ⟨fun {M M' w w'} hs ⟨h1, ev, h2, h3⟩ => by
  have hlt : g < w.heap.size := by
    rcases Nat.lt_or_ge g w.heap.size with h' | h'
    · exact h'
    · simp [World.cell?, Array.getElem?_eq_none h'] at h2
  refine ⟨fun hm => ?_, ev, hs.chg.cell h2 h1, h3⟩
  rcases hs.sub g hm with h | h
  · exact h1 h
  · omega⟩
end Go.Vc
namespace Go.Proofs.YtbkpfhhhbhaecaaGreatDoor
open Go.Vc


def NumI : PW := fun M w => TabI M w ∧ ErrAt 2 M w ∧ ErrAt 3 M w
instance instStableNumI : Stable NumI := instStableAnd TabI (fun M w => ErrAt 2 M w ∧ ErrAt 3 M w)

def bs (l : List UInt8) : ByteArray := ⟨l.toArray⟩
abbrev RdS := List UInt8 × Bool
def numP (e : UInt8) (least : Int) (l : List UInt8) : Option (Int × List UInt8) :=
  let i := Lib.indexByte (l.take 21) e
  if i < 0 then none else match Lib.atoiAll (l.take i.toNat) with
    | .ok n => if Lib.itoa n = l.take i.toNat ∧ least ≤ n then some (n, l.drop (i.toNat + 1)) else none
    | _ => none
def stepN (e : UInt8) (least : Int) (st : RdS) : Int × RdS := match numP e least st.1 with
  | some (n, r) => (n, (r, st.2))
  | none => (0, ([], true))
def stepC (c : UInt8) (st : RdS) : RdS := match st.1 with
  | [] => ([], true)
  | x :: r => if x = c then (r, st.2) else ([], true)
def stepT (st : RdS) : ByteArray × RdS :=
  let a := stepN 58 0 st
  if (a.2.1.length : Int) < a.1 then (ByteArray.mk #[], ([], true)) else
    let c := stepC 44 (a.2.1.drop a.1.toNat, a.2.2)
    (if c.2 then ByteArray.mk #[] else bs (a.2.1.take a.1.toNat), c)

theorem at_of_split {l r : List UInt8} {i : Nat} {e : UInt8} (h : l.take i ++ e :: r = l) (hi : i < l.length) : l[i]? = some e := by
  have hl : (l.take i).length = i := by rw [List.length_take]; omega
  rw [← h, List.getElem?_append_right (by omega), hl, Nat.sub_self]
  rfl
theorem index_neg : ∀ (l : List UInt8) (c : UInt8), -1 ≤ Lib.indexByte l c ∧ (Lib.indexByte l c = -1 ∨ (0 ≤ Lib.indexByte l c ∧ Lib.indexByte l c < l.length ∧ l.take (Lib.indexByte l c).toNat ++ c :: l.drop ((Lib.indexByte l c).toNat + 1) = l ∧ c ∉ l.take (Lib.indexByte l c).toNat))
  | [], c => by simp [Lib.indexByte]
  | b :: l, c => by
    have ih := index_neg l c
    unfold Lib.indexByte
    by_cases hb : (b == c) = true
    · rw [if_pos hb]
      have : b = c := by simpa using hb
      subst this
      refine ⟨by omega, .inr ⟨by omega, by simp, by simp, by simp⟩⟩
    · rw [if_neg hb]
      by_cases h1 : (Lib.indexByte l c == -1) = true
      · rw [if_pos h1]; exact ⟨by omega, .inl rfl⟩
      · rw [if_neg h1]
        have h1 : Lib.indexByte l c ≠ -1 := by simpa using h1
        obtain ⟨h2, h3⟩ := ih
        rcases h3 with h3 | ⟨h3, h4, h5, h6⟩
        · exact absurd h3 h1
        · have e : (Lib.indexByte l c + 1).toNat = (Lib.indexByte l c).toNat + 1 := by omega
          refine ⟨by omega, .inr ⟨by omega, by simp; omega, ?_, ?_⟩⟩
          · rw [e, List.take_succ_cons, List.drop_succ_cons, List.cons_append, h5]
          · rw [e, List.take_succ_cons, List.mem_cons, not_or]
            exact ⟨fun e => hb (by simp [e]), h6⟩

theorem index_least {l : List UInt8} {c : UInt8} {a r : List UInt8} (hl : l = a ++ c :: r) (hc : c ∉ a) : Lib.indexByte l c = a.length := by
  subst hl
  induction a with
  | nil => simp [Lib.indexByte]
  | cons b a ih =>
    have hb : b ≠ c := fun e => hc (by simp [e])
    have ih := ih fun h => hc (by simp [h])
    rw [List.cons_append]
    unfold Lib.indexByte
    rw [if_neg (by simpa using hb), if_neg (by rw [ih]; simp), ih]
    simp

theorem digits_chars : ∀ (u : Nat), ∀ c ∈ Lib.decDigits u, 48 ≤ c.toNat ∧ c.toNat ≤ 57 := by
  intro u
  induction u using Nat.strongRecOn with
  | _ u ih =>
    intro c hc
    rw [Lib.decDigits] at hc
    split at hc
    · rename_i h
      rw [List.mem_singleton] at hc
      subst hc
      have : (UInt8.ofNat (48 + u)).toNat = 48 + u := by simp; omega
      omega
    · rename_i h
      rcases List.mem_append.1 hc with hc | hc
      · exact ih (u / 10) (by omega) c hc
      · rw [List.mem_singleton] at hc
        subst hc
        have : (UInt8.ofNat (48 + u % 10)).toNat = 48 + u % 10 := by simp; omega
        omega
theorem itoa_chars {n : Int} {c : UInt8} (h : c ∈ Lib.itoa n) : c.toNat = 45 ∨ 48 ≤ c.toNat ∧ c.toNat ≤ 57 := by
  unfold Lib.itoa at h
  split at h
  · rcases List.mem_cons.1 h with rfl | h
    · left; rfl
    · right; exact digits_chars _ c h
  · right; exact digits_chars _ c h

def digV (acc : Nat) (l : List UInt8) : Nat := l.foldl (fun a c => a * 10 + (c.toNat - 48)) acc
theorem digV_snoc (acc : Nat) (l : List UInt8) (c : UInt8) : digV acc (l ++ [c]) = digV acc l * 10 + (c.toNat - 48) := by simp [digV]
theorem digV_dec : ∀ u : Nat, digV 0 (Lib.decDigits u) = u := by
  intro u
  induction u using Nat.strongRecOn with
  | _ u ih =>
    rw [Lib.decDigits]
    split
    · rename_i h
      show 0 * 10 + ((UInt8.ofNat (48 + u)).toNat - 48) = u
      have : (UInt8.ofNat (48 + u)).toNat = 48 + u := by simp; omega
      omega
    · rename_i h
      rw [digV_snoc, ih (u / 10) (by omega)]
      have : (UInt8.ofNat (48 + u % 10)).toNat = 48 + u % 10 := by simp; omega
      omega
theorem digV_mono : ∀ (l : List UInt8) (acc : Nat), acc ≤ digV acc l
  | [], acc => Nat.le_refl _
  | c :: l, acc => by
    have := digV_mono l (acc * 10 + (c.toNat - 48))
    show acc ≤ digV (acc * 10 + (c.toNat - 48)) l
    omega
theorem parse_dig : ∀ (l : List UInt8) (acc : Nat), (∀ c ∈ l, 48 ≤ c.toNat ∧ c.toNat ≤ 57) → digV acc l < 18446744073709551616 → Lib.parseUint10 acc l = .ok (digV acc l)
  | [], acc, _, _ => rfl
  | c :: l, acc, hc, h => by
    have h0 := hc c (by simp)
    have hm := digV_mono l (acc * 10 + (c.toNat - 48))
    have e : digV acc (c :: l) = digV (acc * 10 + (c.toNat - 48)) l := rfl
    rw [e] at h ⊢
    unfold Lib.parseUint10
    rw [if_pos h0, if_neg (by omega), if_neg (by omega)]
    exact parse_dig l _ (fun d hd => hc d (by simp [hd])) h

theorem dec_ne (u : Nat) : Lib.decDigits u ≠ [] := by
  intro e
  have h1 := Lib.decDigits_length u
  have h2 := Lib.nDigits_pos u
  rw [e] at h1
  simp at h1
  omega
theorem mag_dec {u : Nat} (h : u < 18446744073709551616) : Lib.parseMag (Lib.decDigits u) = .ok u := by
  unfold Lib.parseMag
  rw [if_neg (dec_ne u), parse_dig _ 0 (digits_chars u) (by rw [digV_dec]; exact h), digV_dec]

theorem atoi_itoa {n : Int} (h : I64 n) : Lib.atoiAll (Lib.itoa n) = .ok n := by
  unfold I64 at h
  unfold Lib.itoa
  split
  · rename_i hn
    have hm := mag_dec (u := n.natAbs) (by omega)
    unfold Lib.atoiAll
    simp only
    rw [if_pos (.inr rfl), hm]
    simp only
    have e45 : (45 : UInt8).toNat = 45 := rfl
    rw [if_neg (by intro h; exact h.1 e45), if_neg (by intro h; omega), if_pos e45]
    congr 1
    omega
  · rename_i hn
    have hm := mag_dec (u := n.toNat) (by omega)
    obtain ⟨c, r, hcr⟩ : ∃ c r, Lib.decDigits n.toNat = c :: r := by
      cases hd : Lib.decDigits n.toNat with
      | nil => exact absurd hd (dec_ne _)
      | cons c r => exact ⟨c, r, rfl⟩
    have h0 := digits_chars n.toNat c (by rw [hcr]; simp)
    rw [hcr] at hm ⊢
    unfold Lib.atoiAll
    simp only
    rw [if_neg (by omega), hm]
    simp only
    rw [if_neg (by omega), if_neg (by omega), if_neg (by omega)]
    congr 1
    omega

theorem numP_iff {e : UInt8} (he : e.toNat = 58 ∨ e.toNat = 59 ∨ e.toNat = 91) {least : Int} {l : List UInt8} {n : Int} {r : List UInt8} : numP e least l = some (n, r) ↔ (I64 n ∧ least ≤ n) ∧ l = Lib.itoa n ++ e :: r := by
  have hne : ∀ n : Int, e ∉ Lib.itoa n := fun n h => by have := itoa_chars h; omega
  constructor
  · intro h
    unfold numP at h
    simp only at h
    split at h
    · cases h
    · rename_i hi
      split at h
      · rename_i m hm
        split at h
        · rename_i hc
          cases h
          have hb := Lib.atoiAll_bounds hm
          obtain ⟨_, h3⟩ := index_neg (l.take 21) e
          rcases h3 with h3 | ⟨h3, h4, h5, h6⟩
          · omega
          · refine ⟨⟨by unfold I64; omega, hc.2⟩, ?_⟩
            rw [hc.1]
            have hlt : (Lib.indexByte (l.take 21) e).toNat < (l.take 21).length := by omega
            have hlt2 : (Lib.indexByte (l.take 21) e).toNat < l.length := by rw [List.length_take] at hlt; omega
            have hg : l[(Lib.indexByte (l.take 21) e).toNat] = e := by
              have h7 : (l.take 21)[(Lib.indexByte (l.take 21) e).toNat]? = some e := at_of_split h5 (by omega)
              rw [List.getElem?_take_of_lt (by rw [List.length_take] at hlt; omega), List.getElem?_eq_getElem hlt2] at h7
              exact Option.some.inj h7
            conv => lhs; rw [← List.take_append_drop (Lib.indexByte (l.take 21) e).toNat l, List.drop_eq_getElem_cons hlt2, hg]
        · cases h
      · cases h
  · rintro ⟨⟨h1, h2⟩, rfl⟩
    have hlen := itoa_len h1
    have ht : (Lib.itoa n ++ e :: r).take 21 = Lib.itoa n ++ e :: r.take (20 - (Lib.itoa n).length) := by
      rw [List.take_append, List.take_of_length_le (by omega)]
      congr 1
      rw [show 21 - (Lib.itoa n).length = (20 - (Lib.itoa n).length) + 1 by omega, List.take_succ_cons]
    have hi := index_least ht (hne n)
    unfold numP
    simp only
    rw [hi, if_neg (by omega), Int.toNat_natCast, List.take_left', atoi_itoa h1]
    · simp only
      rw [if_pos ⟨by simp, h2⟩]
      congr 2
      rw [List.drop_append, List.drop_of_length_le (by omega), List.nil_append, show (Lib.itoa n).length + 1 - (Lib.itoa n).length = 1 by omega]
      rfl
    · rfl

abbrev rd (b : Nat) (st : RdS) : Own := .blk b [.string (bs st.1), .bool st.2] 119

section
variable {W w : World} {R G S : List Own} {Φ : PW} {b : Nat} {st : RdS}

theorem stepN_some {e : UInt8} {least n : Int} {r : List UInt8} (h : numP e least st.1 = some (n, r)) : stepN e least st = (n, (r, st.2)) := by unfold stepN; rw [h]

def rdInt (st : RdS) : Int × RdS := stepN 59 (-9223372036854775808) st
def rdNat (st : RdS) : Int × RdS := stepN 59 0 st

def rdDone (st : RdS) : Bool := !st.2 && decide (st.1 = [])
end
end Go.Proofs.YtbkpfhhhbhaecaaGreatDoor
end

section
set_option linter.unusedVariables false
set_option linter.unusedSimpArgs false
namespace Go.Proofs.YtbkpfhhhbhaecaaGreatDoor
open Go.Vc


def stepV (st : RdS) : ValD × RdS := (⟨(rdInt st).1, (rdInt (rdInt st).2).1, (stepT (rdInt (rdInt st).2).2).1⟩, (stepT (rdInt (rdInt st).2).2).2)
def rowLoop : Nat → RdS → List ValD → Option (List ValD × RdS)
  | 0, st, acc => some (acc, st)
  | n + 1, st, acc => if st.1 = [] then none else rowLoop n (stepV st).2 (acc ++ [(stepV st).1])
def readRowP (l : List UInt8) : Option (List ValD) := match rowLoop (rdNat (l, false)).1.toNat (rdNat (l, false)).2 [] with
  | some (acc, st) => if rdDone st then some acc else none
  | none => none

theorem num_read {e : UInt8} (he : e.toNat = 58 ∨ e.toNat = 59 ∨ e.toNat = 91) {least n : Int} {r : List UInt8} {bad : Bool} (h : I64 n) (h2 : least ≤ n) : stepN e least (Lib.itoa n ++ e :: r, bad) = (n, (r, bad)) :=
  stepN_some (st := (Lib.itoa n ++ e :: r, bad)) ((numP_iff he).2 ⟨⟨h, h2⟩, rfl⟩)
theorem intB_list (n : Int) : (intB n).data.toList = Lib.itoa n ++ [59] := by
  unfold intB numB
  rw [ByteArray.data_append, Array.toList_append]
theorem int_read {n : Int} {r : List UInt8} {bad : Bool} (h : I64 n) : rdInt ((intB n).data.toList ++ r, bad) = (n, (r, bad)) := by
  rw [intB_list, List.append_assoc]
  exact num_read (.inr (.inl rfl)) h h.1
theorem nat_read {n : Nat} {r : List UInt8} {bad : Bool} (h : (n : Int) ≤ 9223372036854775807) : rdNat ((natB n).data.toList ++ r, bad) = ((n : Int), (r, bad)) := by
  unfold natB
  rw [if_neg (by omega), intB_list, List.append_assoc]
  exact num_read (.inr (.inl rfl)) (by unfold I64; omega) (by omega)
theorem textB_list (s : ByteArray) : (textB s).data.toList = Lib.itoa s.size ++ 58 :: (s.data.toList ++ [44]) := by
  unfold textB numB
  simp [ByteArray.data_append]
theorem text_read {s : ByteArray} {r : List UInt8} (h : s.size ≤ 9223372036854775807) : stepT ((textB s).data.toList ++ r, false) = (s, (r, false)) := by
  have e1 : stepN 58 0 ((textB s).data.toList ++ r, false) = ((s.size : Int), (s.data.toList ++ 44 :: r, false)) := by
    rw [textB_list, List.append_assoc, List.cons_append, List.append_assoc]
    exact num_read (.inl rfl) (by unfold I64; omega) (by omega)
  unfold stepT
  simp only [e1]
  have hl : s.data.toList.length = s.size := list_size s
  rw [if_neg (by rw [List.length_append, List.length_cons, hl]; omega), Int.toNat_natCast, List.drop_left' hl, List.take_left' hl]
  rfl
theorem val_read {v : ValD} {r : List UInt8} (h1 : I64 v.kind) (h2 : I64 v.num) (h3 : v.text.size ≤ 9223372036854775807) : stepV ((valB v).data.toList ++ r, false) = (v, (r, false)) := by
  have e : (valB v).data.toList ++ r = (intB v.kind).data.toList ++ ((intB v.num).data.toList ++ ((textB v.text).data.toList ++ r)) := by
    unfold valB
    simp [ByteArray.data_append]
  unfold stepV
  rw [e, int_read h1]
  simp only
  rw [int_read h2]
  simp only
  rw [text_read h3]
theorem valB_pos (v : ValD) (h : I64 v.kind) : (valB v).data.toList ≠ [] := fun e => by
  have h1 := intB_size h
  have h2 := congrArg List.length e
  rw [list_size] at h2
  unfold valB at h2
  rw [size_app, size_app, List.length_nil] at h2
  omega
def FitV (v : ValD) : Prop := (I64 v.kind ∧ I64 v.num) ∧ v.text.size ≤ 9223372036854775807
theorem vals_read : ∀ (r : List ValD) (acc : List ValD) (t : List UInt8), (∀ v ∈ r, FitV v) → rowLoop r.length (valsL r ++ t, false) acc = some (acc ++ r, (t, false))
  | [], acc, t, _ => by simp [rowLoop, valsL]
  | v :: r, acc, t, h => by
    obtain ⟨⟨h1, h2⟩, h3⟩ := h v (by simp)
    have e : valsL (v :: r) ++ t = (valB v).data.toList ++ (valsL r ++ t) := by simp [valsL]
    have hp := valB_pos v h1
    rw [e, List.length_cons, rowLoop, if_neg (by intro e; exact hp (List.append_eq_nil_iff.1 e).1), val_read h1 h2 h3]
    simp only
    rw [vals_read r _ t fun u hu => h u (by simp [hu]), List.append_assoc]
    rfl
theorem row_read {r : List ValD} (h : ∀ v ∈ r, FitV v) (hl : r.length ≤ 9223372036854775807) : readRowP (rowL r) = some r := by
  have h1 := vals_read r [] [] h
  rw [List.append_nil, List.nil_append] at h1
  unfold readRowP rowL
  rw [nat_read (by omega)]
  simp only [Int.toNat_natCast]
  rw [h1]
  rfl

section
variable {W w : World} {R G S : List Own} {Φ : PW} {b : Nat} {st : RdS}

end
end Go.Proofs.YtbkpfhhhbhaecaaGreatDoor
end

section
set_option linter.unusedVariables false
set_option linter.unusedSimpArgs false
namespace Go.Proofs.YtbkpfhhhbhaecaaGreatDoor
open Go.Vc

theorem rowL_inj {r s : List ValD} (hr : ∀ v ∈ r, FitV v) (hs : ∀ v ∈ s, FitV v) (h1 : r.length ≤ 9223372036854775807) (h2 : s.length ≤ 9223372036854775807) (h : rowB r = rowB s) : r = s := by
  have e1 := row_read hr h1
  have e2 := row_read hs h2
  have h : rowL r = rowL s := by
    have := congrArg (fun x : ByteArray => x.data.toList) h
    exact this
  rw [h, e2] at e1
  exact (Option.some.inj e1).symm
end Go.Proofs.YtbkpfhhhbhaecaaGreatDoor
end

section
set_option linter.unusedVariables false
set_option linter.unusedSimpArgs false
namespace Go.Proofs.YtbkpfhhhbhaecaaGreatDoor
open Go.Vc


abbrev LineD.key (x : LineD) : Key := x.d.key
structure AccB (st : LedD) (no mark : Int) (L : List LineD) : Prop where
  gno : (lastP st).no < no
  gmark : (lastP st).mark ≤ mark
  most : mark ≤ 1099511627776
  ok : okFrom no mark (lastP st).mark (st.lines.length + 1) none L = true
  right : ∀ x ∈ L, rightR x.row = true
  over : ∀ x ∈ L, overP st x = false

theorem check_ok {st : LedD} {no mark : Int} {L : List LineD} (h : checkP st no mark L = 0) : AccB st no mark L := by
  unfold checkP at h
  split at h
  · cases h
  · rename_i h1
    split at h
    · cases h
    · rename_i h2
      split at h
      · cases h
      · rename_i h3
        split at h
        · cases h
        · rename_i h4
          split at h
          · cases h
          · rename_i h5
            split at h
            · cases h
            · rename_i h6
              refine ⟨by omega, by omega, by omega, by simpa using h4, fun x hx => ?_, fun x hx => ?_⟩
              · have h5 : (L.any fun x => !rightR x.row) = false := by simpa using h5
                have := (List.any_eq_false.1 h5) x hx
                simpa using this
              · have h6 : L.any (overP st) = false := by simpa using h6
                have := (List.any_eq_false.1 h6) x hx
                simpa using this

theorem asc_key {x y : LineD} (h : ascP x y = true) : cmpK x.key y.key < 0 := by
  unfold ascP at h
  show lex cmpI cmpR (x.time, x.row) (y.time, y.row) < 0
  unfold lex cmpI
  simp only
  rw [Bool.or_eq_true, Bool.and_eq_true] at h
  rcases h with h | ⟨h1, h2⟩
  · have h := of_decide_eq_true h
    rw [if_pos h, if_pos (by decide)]; decide
  · have h1 := of_decide_eq_true h1
    have h2 := of_decide_eq_true h2
    rw [if_neg (show ¬ x.time < y.time by omega), if_neg (show ¬ y.time < x.time by omega)]
    simpa using h2
theorem okFrom_asc {no mark lm : Int} : ∀ {L : List LineD} {nx : Int} {p : LineD}, okFrom no mark lm nx (some p) L = true → (∀ y ∈ L, cmpK p.key y.key < 0) ∧ L.Pairwise fun x y => cmpK x.key y.key < 0
  | [], _, _, _ => ⟨by simp, List.Pairwise.nil⟩
  | x :: L, nx, p, h => by
    unfold okFrom at h
    rw [Bool.and_eq_true, Bool.and_eq_true] at h
    obtain ⟨⟨_, h2⟩, h3⟩ := h
    obtain ⟨g1, g2⟩ := okFrom_asc h3
    have h2 := asc_key h2
    refine ⟨fun y hy => ?_, List.pairwise_cons.2 ⟨g1, g2⟩⟩
    rcases List.mem_cons.1 hy with e | hy
    · rw [e]; exact h2
    · exact cmpK_cmp.trans _ _ _ h2 (g1 y hy)
theorem okFrom_pair {no mark lm nx : Int} : ∀ {L : List LineD}, okFrom no mark lm nx none L = true → L.Pairwise fun x y => cmpK x.key y.key < 0
  | [], _ => List.Pairwise.nil
  | x :: L, h => by
    unfold okFrom at h
    rw [Bool.and_eq_true, Bool.and_eq_true] at h
    obtain ⟨g1, g2⟩ := okFrom_asc h.2
    exact List.pairwise_cons.2 ⟨g1, g2⟩
theorem okFrom_each {no mark lm : Int} : ∀ {L : List LineD} {nx : Int} {pv : Option LineD}, okFrom no mark lm nx pv L = true → ∀ i (h : i < L.length), okLine (nx + i) no mark lm L[i] = true
  | [], _, _, _, i, h => by simp at h
  | x :: L, nx, pv, h, i, hi => by
    unfold okFrom at h
    rw [Bool.and_eq_true, Bool.and_eq_true] at h
    cases i with
    | zero => rw [Int.natCast_zero, Int.add_zero]; exact h.1.1
    | succ i =>
      have := okFrom_each h.2 i (by simpa using hi)
      rw [show nx + ((i + 1 : Nat) : Int) = nx + 1 + i by omega]
      exact this

structure LineOk (nx no mark lm : Int) (x : LineD) : Prop where
  gno : x.no = nx
  batch : x.batch = no
  t0 : 0 ≤ x.time
  t1 : x.time ≤ mark
  nz : x.n ≠ 0
  caused : causedP x lm = true
theorem okLine_out {nx no mark lm : Int} {x : LineD} (h : okLine nx no mark lm x = true) : LineOk nx no mark lm x := by
  unfold okLine at h
  simp only [Bool.and_eq_true, decide_eq_true_eq] at h
  obtain ⟨⟨⟨⟨⟨h1, h2⟩, h3⟩, h4⟩, h5⟩, h6⟩ := h
  exact ⟨h1, h2, h3, h4, h5, h6⟩
theorem AccB.at {st : LedD} {no mark : Int} {L : List LineD} (h : AccB st no mark L) (i : Nat) (hi : i < L.length) : LineOk (((st.lines.length : Int) + 1) + i) no mark (lastP st).mark L[i] := okLine_out (okFrom_each h.ok i hi)
theorem AccB.mem {st : LedD} {no mark : Int} {L : List LineD} (h : AccB st no mark L) {x : LineD} (hx : x ∈ L) : ∃ nx, LineOk nx no mark (lastP st).mark x := by
  obtain ⟨i, hi, rfl⟩ := List.getElem_of_mem hx
  exact ⟨_, h.at i hi⟩
theorem caused_cause {x : LineD} {m : Int} (h : causedP x m = true) : x.cause = 0 ∨ x.cause = 1 ∨ x.cause = 2 := by
  unfold causedP at h
  split at h
  · omega
  · split at h
    · omega
    · split at h
      · omega
      · cases h

def RowsFit (L : List LineD) : Prop := ∀ x ∈ L, ∀ v ∈ x.row, FitV v
theorem right_len {r : List ValD} (h : rightR r = true) : r.length ≤ 12 := by
  unfold rightR at h
  rw [Bool.and_eq_true] at h
  have := of_decide_eq_true h.1
  omega
theorem key_of_at {x y : LineD} (hx : ∀ v ∈ x.row, FitV v) (hy : ∀ v ∈ y.row, FitV v) (h1 : x.row.length ≤ 1000000) (h2 : y.row.length ≤ 1000000) (h : x.at = y.at) : x.key = y.key := by
  have e1 : x.time = y.time := congrArg Prod.fst h
  have e2 : rowB x.row = rowB y.row := congrArg Prod.snd h
  have e3 := rowL_inj hx hy (by omega) (by omega) e2
  show (x.time, x.row) = (y.time, y.row)
  rw [e1, e3]
theorem cnt_none {k : LKey} : ∀ {l : List LineD}, (∀ x ∈ l, x.at ≠ k) → cntL l k = 0
  | [], _ => rfl
  | x :: l, h => by
    unfold cntL
    rw [if_neg (h x (by simp)), cnt_none fun y hy => h y (by simp [hy])]; rfl
theorem cnt_one : ∀ {l : List LineD}, l.Pairwise (fun x y => x.at ≠ y.at) → ∀ i (h : i < l.length), cntL l l[i].at = l[i].n
  | [], _, i, h => by simp at h
  | x :: l, hp, i, h => by
    obtain ⟨h1, h2⟩ := List.pairwise_cons.1 hp
    unfold cntL
    cases i with
    | zero =>
      rw [List.getElem_cons_zero, if_pos rfl, cnt_none fun y hy => (h1 y hy).symm]; omega
    | succ i =>
      rw [List.getElem_cons_succ, if_neg (h1 _ (List.getElem_mem _)), cnt_one h2 i (by simpa using h)]; omega
theorem cnt_step {l : List LineD} {i : Nat} (h : i < l.length) (k : LKey) : cntL (l.take (i + 1)) k = cntL (l.take i) k + if l[i].at = k then l[i].n else 0 := by
  rw [List.take_succ_eq_append_getElem h, cntL_app]
  simp [cntL]
theorem caus_app (a b : List LineD) (k : Int) : caus (a ++ b) k = caus a k + caus b k := by unfold caus; rw [List.countP_append]; omega
theorem caus_step {l : List LineD} {i : Nat} (h : i < l.length) (k : Int) : caus (l.take (i + 1)) k = caus (l.take i) k + if l[i].cause = k then 1 else 0 := by
  rw [List.take_succ_eq_append_getElem h, caus_app]
  congr 1
  unfold caus
  rw [List.countP_cons, List.countP_nil]
  split <;> rename_i h2
  · rw [if_pos (by simpa using h2)]; rfl
  · rw [if_neg (by simpa using h2)]; rfl
theorem caus_bd (l : List LineD) (k : Int) : 0 ≤ caus l k ∧ caus l k ≤ l.length := by
  unfold caus
  have := List.countP_le_length (p := fun x : LineD => decide (x.cause = k)) (l := l)
  omega

theorem AccB.apart {st : LedD} {no mark : Int} {L : List LineD} (h : AccB st no mark L) (hf : RowsFit L) : L.Pairwise fun x y => x.at ≠ y.at := by
  have hp := okFrom_pair h.ok
  refine hp.imp_of_mem fun {x y} hx hy hlt e => ?_
  have hk := key_of_at (hf x hx) (hf y hy) (by have := right_len (h.right x hx); omega) (by have := right_len (h.right y hy); omega) e
  rw [hk, cmpK_cmp.refl] at hlt
  omega
theorem AccB.zero {st : LedD} {no mark : Int} {L : List LineD} (h : AccB st no mark L) (hf : RowsFit L) {i : Nat} (hi : i < L.length) : cntL (L.take i) L[i].at = 0 := by
  have hp := h.apart hf
  refine cnt_none fun x hx => ?_
  obtain ⟨j, hj, rfl⟩ := List.getElem_of_mem hx
  rw [List.length_take] at hj
  rw [List.getElem_take]
  exact List.pairwise_iff_getElem.1 hp j i (by omega) hi (by omega)
theorem AccB.room {st : LedD} {no mark : Int} {L : List LineD} (h : AccB st no mark L) {x : LineD} (hx : x ∈ L) : 0 ≤ cntL st.lines x.at + x.n ∧ cntL st.lines x.at + x.n ≤ 1152921504606846976 := by
  have := h.over x hx
  unfold overP at this
  rw [Bool.or_eq_false_iff] at this
  have h1 := of_decide_eq_false this.1
  have h2 := of_decide_eq_false this.2
  omega

def appP (st : LedD) (no mark : Int) (L : List LineD) : LedD := ⟨st.lines ++ L, st.bats ++ [⟨no, mark, (st.lines ++ L).length⟩]⟩

theorem AccB.cnt {st : LedD} {no mark : Int} {L : List LineD} (h : AccB st no mark L) (hf : RowsFit L) (hc : CntOk st) : CntOk (appP st no mark L) := fun k => by
  show 0 ≤ cntL (st.lines ++ L) k ∧ cntL (st.lines ++ L) k ≤ _
  rw [cntL_app]
  by_cases hk : ∃ x ∈ L, x.at = k
  · obtain ⟨x, hx, rfl⟩ := hk
    have h1 := h.room hx
    obtain ⟨i, hi, rfl⟩ := List.getElem_of_mem hx
    rw [cnt_one (h.apart hf) i hi]
    exact h1
  · rw [cnt_none fun x hx e => hk ⟨x, hx, e⟩, Int.add_zero]
    exact hc k
end Go.Proofs.YtbkpfhhhbhaecaaGreatDoor
end

section
set_option linter.unusedVariables false
set_option linter.unusedSimpArgs false
namespace Go.Proofs.YtbkpfhhhbhaecaaGreatDoor
open Go.Vc


def MapV (mb : Nat) (k : LKey) (n : Int) : PW := fun M w => mb ∉ M ∧ ∃ es clk, w.heap[mb]? = some (mObj es clk) ∧ getM es k = n
instance instStableMapV (mb : Nat) (k : LKey) (n : Int) : Stable (MapV mb k n) := ⟨fun {M M' w w'} hs h => by
  obtain ⟨h1, es, clk, h2, h3⟩ := h
  have hlt : mb < w.heap.size := (Array.getElem?_eq_some_iff.1 h2).1
  refine ⟨fun hm => ?_, es, clk, (hs.chg.block mb hlt h1).trans h2, h3⟩
  rcases hs.sub mb hm with h | h
  · exact h1 h
  · omega⟩

section
variable {Φ : PW} {q : LP} {st : LedD} {W w : World} {R S G : List Own} {p : Option Addr} {cap : Nat} {L : List LineD} {cs : List Value}

abbrev LedXB (q : LP) (st : LedD) (c0 c1 c2 : Int) : List Value := [.slice q.lp st.lines.length q.lc, .slice q.bp st.bats.length q.bc, .map (some q.mb), .int .i64 c0, .int .i64 c1, .int .i64 c2]
abbrev LedX (q : LP) (st : LedD) (c0 c1 c2 : Int) (es : List MEnt) (clk : Nat) : List Own := [.blk q.lb (LedXB q st c0 c1 c2) 79, .buf q.lp st.lines.length q.lc q.cs 51 7, .buf q.bp st.bats.length q.bc (batCells st.bats) 86 3, .obj q.mb (mObj es clk)]

theorem ledx_map {c0 c1 c2 : Int} {es : List MEnt} {clk : Nat} (cx : Ctx W w ((LedX q st c0 c1 c2 es clk ++ R) ++ G) Φ) : w.heap[q.mb]? = some (mObj es clk) := cx.own (.obj q.mb (mObj es clk)) (by simp)
theorem ledx_put [Stable Φ] {c0 c1 c2 : Int} {es : List MEnt} {clk : Nat} (cx : Ctx W w ((LedX q st c0 c1 c2 es clk ++ R) ++ G) Φ) (es1 : List MEnt) (clk1 : Nat) : Ctx W (setB w q.mb (mObj es1 clk1)) ((LedX q st c0 c1 c2 es1 clk1 ++ R) ++ G) Φ := cx.putObj 3 (mObj es1 clk1) rfl
theorem ledx_val [Stable Φ] {c0 c1 c2 : Int} {es : List MEnt} {clk : Nat} (cx : Ctx W w ((LedX q st c0 c1 c2 es clk ++ R) ++ G) Φ) {k : LKey} {n : Int} (hn : getM es k = n) : Ctx W w ([.blk q.lb (LedXB q st c0 c1 c2) 79] ++ G) (MapV q.mb k n) := by
  have c1 : Ctx W w ([.blk q.lb (LedXB q st c0 c1 c2) 79, .obj q.mb (mObj es clk)] ++ G) Φ := cx.sub (by
    refine List.Sublist.append ?_ (List.Sublist.refl G)
    show List.Sublist _ (_ :: _ :: _ :: _ :: R)
    exact .cons_cons _ (.cons _ (.cons _ (.cons_cons _ (List.nil_sublist _)))))
  have c2 := (Ctx.swap c1).park
  exact c2.weak fun M w h => ⟨(h.2.2 q.mb (by simp [Own.dom])).1, es, clk, h.2.1, hn⟩
theorem ledx_blk [Stable Φ] {c0 c1 c2 : Int} {es : List MEnt} {clk : Nat} (cx : Ctx W w ((LedX q st c0 c1 c2 es clk ++ R) ++ G) Φ) : Ctx W w ([.blk q.lb (LedXB q st c0 c1 c2) 79] ++ G) (fun _ _ => True) := by
  have c1 : Ctx W w ([.blk q.lb (LedXB q st c0 c1 c2) 79] ++ G) Φ := cx.sub (by
    refine List.Sublist.append ?_ (List.Sublist.refl G)
    show List.Sublist _ (_ :: _ :: _ :: _ :: R)
    exact .cons_cons _ (List.nil_sublist _))
  exact c1.weak fun _ _ _ => trivial

def CausTail (lb : Nat) (n30 : Int) (W : World) (R83 : List Own) (Φ84 : PW) (K : List Own → PW → Prop) : Prop :=
  ∃ (R85 : List Own) (Φ86 : PW), Stable Φ86 ∧ (∀ (w : World) (F : List Own), Ctx W w (R83 ++ F) Φ84 → Ctx W w (R85 ++ F) Φ86) ∧ (0 ≤ n30 ∧ n30 < 3) ∧ ∃ n89 : Int,
    (∀ (w : World) (F : List Own), Ctx W w (R85 ++ F) Φ86 → ∃ n92 : Int, w.cell? ⟨lb, 0 + 3 + n30.toNat, none⟩ = some (.int .i64 n92) ∧ Value.int .i64 n92 = .int .i64 n89) ∧ I64 (n89 + 1) ∧ (0 ≤ n30 ∧ n30 < 3) ∧
    ∀ (w : World) (F : List Own), Ctx W w (R83 ++ F) Φ84 → CanWrite w lb (0 + 3 + n30.toNat) 1 ∧ ∀ w95 : World, w95 = w.setCell ⟨lb, 0 + 3 + n30.toNat, none⟩ (.int .i64 (n89 + 1)) → ∃ (R96 : List Own) (Φ97 : PW), Stable Φ97 ∧ Ctx W w95 (R96 ++ F) Φ97 ∧ K R96 Φ97

theorem caus_tail [Stable Φ] {c0 c1 c2 n30 : Int} {es : List MEnt} {clk : Nat} (hc : n30 = 0 ∨ n30 = 1 ∨ n30 = 2) (h0 : 0 ≤ c0 ∧ c0 < 1000000000) (h1 : 0 ≤ c1 ∧ c1 < 1000000000) (h2 : 0 ≤ c2 ∧ c2 < 1000000000) {K : List Own → PW → Prop}
    (hk : K (LedX q st (c0 + if n30 = 0 then 1 else 0) (c1 + if n30 = 1 then 1 else 0) (c2 + if n30 = 2 then 1 else 0) es clk ++ R) Φ) : CausTail q.lb n30 W (LedX q st c0 c1 c2 es clk ++ R) Φ K := by
  rcases hc with rfl | rfl | rfl
  · refine ⟨_, Φ, inferInstance, fun w F c => c, by omega, c0, fun w F c => ⟨c0, c.get 0 rfl rfl, rfl⟩, by unfold I64; omega, by omega, fun w F c => ⟨c.can 0 rfl (by show 3 + 1 ≤ 6; decide), fun w2 e => ⟨LedX q st (c0 + 1) (c1) (c2) es clk ++ R, Φ, inferInstance, c.put 0 e rfl, ?_⟩⟩⟩
    simpa using hk
  · refine ⟨_, Φ, inferInstance, fun w F c => c, by omega, c1, fun w F c => ⟨c1, c.get 0 rfl rfl, rfl⟩, by unfold I64; omega, by omega, fun w F c => ⟨c.can 0 rfl (by show 4 + 1 ≤ 6; decide), fun w2 e => ⟨LedX q st (c0) (c1 + 1) (c2) es clk ++ R, Φ, inferInstance, c.put 0 e rfl, ?_⟩⟩⟩
    simpa using hk
  · refine ⟨_, Φ, inferInstance, fun w F c => c, by omega, c2, fun w F c => ⟨c2, c.get 0 rfl rfl, rfl⟩, by unfold I64; omega, by omega, fun w F c => ⟨c.can 0 rfl (by show 5 + 1 ≤ 6; decide), fun w2 e => ⟨LedX q st (c0) (c1) (c2 + 1) es clk ++ R, Φ, inferInstance, c.put 0 e rfl, ?_⟩⟩⟩
    simpa using hk

theorem bat_app (l : List BatD) (x : BatD) : batCells (l ++ [x]) = batCells l ++ x.cells := by simp [batCells]

set_option maxHeartbeats 4000000 in
theorem Append_use [Stable Φ] {no mark : Int} [hT : Has Φ TabI] [hF : Has Φ (LF q st)] (hq : LedQ q st) (hs : LedS st) (hk : CntOk st) (src : Src [] Φ p L cs) (hlen : L.length ≤ 150000) (hrow : ∀ x ∈ L, x.row.length ≤ 1000000)
    (c : Ctx W w ((LedO q st ++ R) ++ G) Φ) {K : Int → List Own → PW → Prop}
    (h0 : checkP st no mark L ≠ 0 → K (checkP st no mark L) (LedO q st ++ R) Φ)
    (h1 : ∀ q', checkP st no mark L = 0 → RowsFit L → q'.lb = q.lb → LedQ q' (appP st no mark L) → Stable (fun M w => Φ M w ∧ LF q' (appP st no mark L) M w) → K 0 (LedO q' (appP st no mark L) ++ R) (fun M w => Φ M w ∧ LF q' (appP st no mark L) M w)) :
    Calls Tryz.prog F.ledger_Ledger_Append #[led q, .int .i64 no, .int .i64 mark, .slice p L.length cap] w fun e w' => ∃ n, e = .returned (.int .i64 n) ∧ ∃ R' Φ', Stable Φ' ∧ Ctx W w' (R' ++ G) Φ' ∧ K n R' Φ' := by
  have hsl := hs.lines
  have hc : Rows7 cs L := rows7 (src.el _ _ c.phi)
  have hfit : RowsFit L := fun x hx v hv => by
    obtain ⟨i, hi, rfl⟩ := List.getElem_of_mem hx
    obtain ⟨r, rc, he, _⟩ := hc i hi
    obtain ⟨g1, g2⟩ := sl_i64 (src_sl src hi he c.phi) v hv
    exact ⟨g1, Nat.le_trans g2 (by decide)⟩
  refine (Bledger_Ledger_Append_run q.lb 0 no mark p L.length cap (R := (LedO q st ++ R) ++ G) (J := fun v w' => ∃ n, v = .int .i64 n ∧ ∃ R' Φ', Stable Φ' ∧ Ctx W w' (R' ++ G) Φ' ∧ K n R' Φ') c ?_).mono fun e w' ⟨v, he, n, hv, rest⟩ => ⟨n, by rw [he, hv], rest⟩
  clear c
  refine fun w G2 cx => (Check_q hq hs hk src (by omega) hrow).toI (R := R ++ G) (cx.re (by simp)) ?_
  clear cx
  refine Br.intro (fun h => fun w G2 cx => ⟨_, rfl, _, Φ, inferInstance, (cx.left.re (by simp)), h0 (of_decide_eq_true h)⟩) (fun h => ?_)
  have hz : checkP st no mark L = 0 := Decidable.not_not.1 (of_decide_eq_false h)
  have ac := check_ok hz
  have hap := ac.apart hfit
  have b0 := caus_bd st.lines 0
  have b1 := caus_bd st.lines 1
  have b2 := caus_bd st.lines 2
  refine exI_mk (fun iI R' Φ' k => ∃ (i : Nat) (es : List MEnt) (clk : Nat), iI = i ∧ i ≤ L.length ∧ MapOk es clk ∧ (∀ k, getM es k = cntL st.lines k + cntL (L.take i) k) ∧ R' = LedX q st (caus st.lines 0 + caus (L.take i) 0) (caus st.lines 1 + caus (L.take i) 1) (caus st.lines 2 + caus (L.take i) 2) es clk ++ (R ++ G) ∧ Φ' = Φ ∧ k = L.length - i)
    ⟨⟨LedO q st ++ (R ++ G), Φ, _, inferInstance, fun w G cx => cx, 0, q.es, q.clk, rfl, Nat.zero_le _, hq.map, fun k => by rw [hq.cnt k]; simp [cntL], by simp [caus], rfl, rfl⟩, ?_⟩
  rintro iI R1 Φ1 k _ ⟨i, es, clk, rfl, hi, hmo, hcnt, rfl, rfl, rfl⟩
  have a0 := caus_bd (L.take i) 0
  have a1 := caus_bd (L.take i) 1
  have a2 := caus_bd (L.take i) 2
  rw [List.length_take] at a0 a1 a2
  refine Br.intro (fun hlt => ?_) (fun hge => ?_)
  · have hlt : i < L.length := by have := of_decide_eq_true hlt; omega
    obtain ⟨b, o, hp⟩ := src.ptr (by omega)
    obtain ⟨r, rc, he, g1, g2, g3⟩ := hc i hlt
    have hhi : Has Φ1 (fun M w => Sl M w r L[i].row) := ⟨fun M w h => src_sl src hlt he h⟩
    have hzero := ac.zero hfit hlt
    have hroom := ac.room (List.getElem_mem hlt)
    have hkb := hk L[i].at
    obtain ⟨_, lok⟩ := ac.mem (List.getElem_mem hlt)
    have hca := caused_cause lok.caused
    have hg := hcnt L[i].at
    rw [hzero, Int.add_zero] at hg
    obtain ⟨n0, hn0⟩ : ∃ n0, cntL st.lines L[i].at = n0 := ⟨_, rfl⟩
    rw [hn0] at hg hroom hkb
    obtain ⟨d0, hd0⟩ : ∃ d, caus st.lines 0 + caus (L.take i) 0 = d := ⟨_, rfl⟩
    obtain ⟨d1, hd1⟩ : ∃ d, caus st.lines 1 + caus (L.take i) 1 = d := ⟨_, rfl⟩
    obtain ⟨d2, hd2⟩ : ∃ d, caus st.lines 2 + caus (L.take i) 2 = d := ⟨_, rfl⟩
    rw [hd0, hd1, hd2]
    refine ⟨by omega, ptrK_intro b o hp fun w G2 cx => ⟨L[i].no, L[i].batch, L[i].time, r, L[i].row.length, rc, L[i].n, L[i].cause, L[i].why, by rw [Int.toNat_natCast]; exact src_at (S := []) src hp cx he, fun _ w G2 cx => ?_⟩⟩
    refine at_use L[i] r rc (hrow _ (List.getElem_mem _)) (right_text (ac.right _ (List.getElem_mem _))) cx ?_
    clear cx
    -- what is left, once the map has its entry
    have tail : ∀ (es' : List MEnt) (clk' : Nat), MapOk es' clk' → (∀ k, getM es' k = cntL st.lines k + cntL (L.take (i + 1)) k) → ∀ K : List Own → PW → Prop,
        K (LedX q st (caus st.lines 0 + caus (L.take (i + 1)) 0) (caus st.lines 1 + caus (L.take (i + 1)) 1) (caus st.lines 2 + caus (L.take (i + 1)) 2) es' clk' ++ (R ++ G)) Φ1 → CausTail q.lb L[i].cause W (LedX q st d0 d1 d2 es' clk' ++ (R ++ G)) Φ1 K := fun es' clk' _ _ K hK => by
      refine caus_tail hca (by omega) (by omega) (by omega) ?_
      rw [caus_step hlt, caus_step hlt, caus_step hlt, ← Int.add_assoc, ← Int.add_assoc, ← Int.add_assoc, hd0, hd1, hd2] at hK
      exact hK
    have step : ∀ y : LKey, cntL st.lines y + cntL (L.take (i + 1)) y = if y = L[i].at then n0 + L[i].n else getM es y := fun y => by
      rw [cnt_step hlt, hcnt y]
      by_cases hy : y = L[i].at
      · rw [if_pos hy, hy, hzero, if_pos rfl, hn0]; omega
      · rw [if_neg hy, if_neg (fun e => hy e.symm)]; omega
    refine fun _ => ⟨[.blk q.lb (LedXB q st d0 d1 d2) 79], MapV q.mb L[i].at n0, inferInstance, fun w G2 cx => ledx_val cx hg, some q.mb, fun w G2 cx => ⟨some q.mb, cx.get 0 rfl rfl, rfl⟩, n0, fun w G2 cx => ?_, by unfold I64; omega, fun w G2 cx => ?_⟩
    · obtain ⟨_, es3, clk3, h4, h5⟩ := cx.phi
      exact ⟨n0, fun w2 hw2 => by rw [← h5]; exact run_lookupM keyTy (by rw [hw2]; exact h4) L[i].at, rfl⟩
    obtain ⟨es1, clk1, s, hrun, ok1, hg1, hx1⟩ := run_entryM keyTy hmo (ledx_map cx) L[i].at
    refine ⟨getM es L[i].at, (s : Int), _, hrun, LedX q st d0 d1 d2 es1 clk1 ++ (R ++ G), Φ1, inferInstance, ledx_put cx es1 clk1, fun w G2 cx => ledx_val cx (by rw [hg1]; exact hg), fun w G2 cx => ?_⟩
    obtain ⟨es2, hrun2, ok2, hg2⟩ := run_storeM 75 ok1 hx1 (ledx_map cx) (n0 + L[i].n)
    have hg2' : ∀ y, getM es2 y = cntL st.lines y + cntL (L.take (i + 1)) y := fun y => by rw [hg2 y, step y, hg1]
    have hval : getM es2 L[i].at = n0 + L[i].n := by rw [hg2, if_pos rfl]
    refine ⟨_, hrun2, LedX q st d0 d1 d2 es2 clk1 ++ (R ++ G), Φ1, inferInstance, ledx_put cx es2 clk1, fun w G2 cx => ⟨some q.mb, cx.get 0 rfl rfl, getM es2 L[i].at, fun w2 hw2 => run_lookupM keyTy (by rw [hw2]; exact ledx_map cx) L[i].at, ?_⟩⟩
    clear cx
    rw [hval]
    refine Br.intro (fun h4 => ⟨LedX q st d0 d1 d2 es2 clk1 ++ (R ++ G), Φ1, inferInstance, fun w G2 cx => cx, some q.mb, fun w G2 cx => ⟨some q.mb, cx.get 0 rfl rfl, rfl⟩, fun w G2 cx => ?_⟩) (fun h4 => ?_)
    · have h4 := of_decide_eq_true h4
      obtain ⟨es3, hrun3, ok3, hg3⟩ := run_deleteM keyTy ok2 (ledx_map cx) L[i].at 82 0 #[false, false]
      have hg3' : ∀ y, getM es3 y = cntL st.lines y + cntL (L.take (i + 1)) y := fun y => by
        rw [hg3 y, ← hg2' y, hg2 y]
        by_cases hy : y = L[i].at
        · rw [if_pos hy, if_pos hy]; omega
        · rw [if_neg hy]
      exact ⟨_, hrun3, LedX q st d0 d1 d2 es3 clk1 ++ (R ++ G), Φ1, inferInstance, ledx_put cx es3 clk1, tail es3 clk1 ok3 hg3' _ ⟨by unfold I64; omega, _, Φ1, L.length - (i + 1), inferInstance, fun w G cx => cx, ⟨i + 1, es3, clk1, rfl, hlt, ok3, hg3', rfl, rfl, rfl⟩, by omega⟩⟩
    · exact tail es2 clk1 ok2 hg2' _ ⟨by unfold I64; omega, _, Φ1, L.length - (i + 1), inferInstance, fun w G cx => cx, ⟨i + 1, es2, clk1, rfl, hlt, ok2, hg2', rfl, rfl, rfl⟩, by omega⟩
  have hge : i = L.length := by have := of_decide_eq_false hge; omega
  subst hge
  rw [List.take_length] at hcnt ⊢
  clear a0 a1 a2
  rw [← caus_app, ← caus_app, ← caus_app]
  refine ⟨[.blk q.lb (LedXB q st (caus (st.lines ++ L) 0) (caus (st.lines ++ L) 1) (caus (st.lines ++ L) 2)) 79], (fun _ _ => True), inferInstance, fun w G2 cx => ledx_blk cx, q.lp, st.lines.length, q.lc, fun w G2 cx => ⟨_, _, _, cx.get 0 rfl rfl, rfl⟩, fun w G2 cx => ?_⟩
  refine (Cloned_new (S := (LedX q st (caus (st.lines ++ L) 0) (caus (st.lines ++ L) 1) (caus (st.lines ++ L) 2) es clk ++ (R ++ G)) ++ G2) (Φ := Φ1) (src.app (S := []) (R := (LedX q st (caus (st.lines ++ L) 0) (caus (st.lines ++ L) 1) (caus (st.lines ++ L) 2) es clk ++ (R ++ G)) ++ G2)) (by omega) hrow cx).mono fun e w' ⟨p1, c1, cs1, he, cx⟩ => ?_
  obtain ⟨cx1, hsl1, _, e1, e2⟩ := Ctx.freeze (α := LineD) cx cx.phi.2
  refine ⟨p1, L.length, c1, he, LedX q st (caus (st.lines ++ L) 0) (caus (st.lines ++ L) 1) (caus (st.lines ++ L) 2) es clk ++ (R ++ G), (fun M w => Φ1 M w ∧ Sl M w p1 L), inferInstance, (cx1.add hsl1).weak fun M w h => ⟨h.1.1, h.2⟩, fun w G2 cx => ledx_blk cx, fun w G2 cx => ?_⟩
  obtain ⟨p2, c2, w2, news, hrun, cx3⟩ := Ctx.appAny (P := Tryz.prog) (ts := 31) (ty := 31) (kb := #[false, false]) (bytes := 72) (c2 := c1) (l := L) (q := p1) (Ctx.swap cx) (by kernel_rfl) line_one (fun M w h => h.2) (by omega) (by omega)
  have cx4 := Ctx.swap cx3
  have hel : st.lines.length + L.length = (st.lines ++ L).length := by rw [List.length_append]
  rw [hel] at hrun cx4
  obtain ⟨C0, hC0⟩ : ∃ C0, caus (st.lines ++ L) 0 = C0 := ⟨_, rfl⟩
  obtain ⟨C1, hC1⟩ : ∃ C1, caus (st.lines ++ L) 1 = C1 := ⟨_, rfl⟩
  obtain ⟨C2, hC2⟩ : ∃ C2, caus (st.lines ++ L) 2 = C2 := ⟨_, rfl⟩
  rw [hC0, hC1, hC2] at cx4 ⊢
  -- the lines have moved; the block tells so next
  refine ⟨p2, (st.lines ++ L).length, c2, w2, hrun, .blk q.lb (LedXB q st C0 C1 C2) 79 :: .buf p2 (st.lines ++ L).length c2 (q.cs ++ news) 51 7 :: .buf q.bp st.bats.length q.bc (batCells st.bats) 86 3 :: .obj q.mb (mObj es clk) :: (R ++ G), (fun M w => Φ1 M w ∧ Elems M w (q.cs ++ news) (st.lines ++ L)), inferInstance, cx4.weak fun M w h => ⟨h.1.1, (hF.go M w h.1.1).append h.2⟩, fun w G2 cx => ?_, fun w G2 cx => ⟨cx.can 0 rfl (by show 0 + 1 ≤ 6; decide), fun w4 hw4 => ?_⟩⟩
  · have cy : Ctx W w ([.blk q.lb (LedXB q st C0 C1 C2) 79] ++ G2) (fun M w => Φ1 M w ∧ Elems M w (q.cs ++ news) (st.lines ++ L)) := cx.sub (List.Sublist.append (show List.Sublist _ (_ :: _ :: _ :: _ :: (R ++ G)) from .cons_cons _ (List.nil_sublist _)) (List.Sublist.refl G2))
    exact cy.weak fun _ _ _ => trivial
  have cx5 := cx.put 0 hw4 rfl
  -- the ledger without the batch
  obtain ⟨q1, hq1⟩ : ∃ q1 : LP, q1 = ⟨q.lb, p2, c2, q.cs ++ news, q.bp, q.bc, q.mb, es, clk⟩ := ⟨_, rfl⟩
  have cx6 : Ctx W w4 ((LedX q1 ⟨st.lines ++ L, st.bats⟩ C0 C1 C2 es clk ++ (R ++ G)) ++ G2) (fun M w => Φ1 M w ∧ Elems M w (q.cs ++ news) (st.lines ++ L)) := by rw [hq1]; exact cx5
  have hlb : q.lb = q1.lb := by rw [hq1]
  have hbp : q.bp = q1.bp := by rw [hq1]
  have hbc : q.bc = q1.bc := by rw [hq1]
  refine ⟨LedX q1 ⟨st.lines ++ L, st.bats⟩ C0 C1 C2 es clk ++ (R ++ G), (fun M w => Φ1 M w ∧ Elems M w (q.cs ++ news) (st.lines ++ L)), inferInstance, cx6, ?_⟩
  clear cx6 cx5 cx4 cx3 cx
  rw [hlb]
  refine ⟨[.blk q1.lb (LedXB q1 ⟨st.lines ++ L, st.bats⟩ C0 C1 C2) 79], (fun _ _ => True), inferInstance, fun w G2 cx => ledx_blk cx, q1.bp, st.bats.length, q1.bc, fun w G2 cx => ⟨_, _, _, cx.get 0 rfl rfl, rfl⟩, q1.lp, (st.lines ++ L).length, q1.lc, fun w G2 cx => ⟨_, _, _, cx.get 0 rfl rfl, rfl⟩, fun kb => ⟨fun w G2 cx => ledx_blk (Ctx.drop1 cx), fun w G2 cx => ?_⟩⟩
  have hlen2 := hs.bats
  have cy : Ctx W w (.blk kb [.int .i64 no, .int .i64 mark, .int .i64 ((st.lines ++ L).length : Nat)] 86 :: .buf q1.bp st.bats.length q1.bc (batCells st.bats) 86 3 :: .blk q1.lb (LedXB q1 ⟨st.lines ++ L, st.bats⟩ C0 C1 C2) 79 :: .buf q1.lp (st.lines ++ L).length q1.lc q1.cs 51 7 :: .obj q1.mb (mObj es clk) :: ((R ++ G) ++ G2)) (fun M w => Φ1 M w ∧ Elems M w (q.cs ++ news) (st.lines ++ L)) := cx.perm (List.Perm.cons _ (List.perm_middle (l₁ := [_, _]) (a := _)))
  obtain ⟨p4, c4, w5, hrun5, _, cz⟩ := Ctx.app1 (P := Tryz.prog) (ts := 76) (ty := 76) (kb := #[false, false]) (size := 3) (bytes := 24) cy (by kernel_rfl) (by omega) rfl rfl (by omega) (by omega)
  have hbl : st.bats.length + 1 = (st.bats ++ [(⟨no, mark, (st.lines ++ L).length⟩ : BatD)]).length := by simp
  rw [hbl] at hrun5 cz
  obtain ⟨q2, hq2⟩ : ∃ q2 : LP, q2 = ⟨q1.lb, q1.lp, q1.lc, q1.cs, p4, c4, q1.mb, es, clk⟩ := ⟨_, rfl⟩
  refine ⟨p4, (st.bats ++ [(⟨no, mark, (st.lines ++ L).length⟩ : BatD)]).length, c4, w5, hrun5, .blk q1.lb (LedXB q1 ⟨st.lines ++ L, st.bats⟩ C0 C1 C2) 79 :: .buf q1.lp (st.lines ++ L).length q1.lc q1.cs 51 7 :: .buf p4 (st.bats ++ [(⟨no, mark, (st.lines ++ L).length⟩ : BatD)]).length c4 (batCells (st.bats ++ [⟨no, mark, (st.lines ++ L).length⟩])) 86 3 :: .obj q1.mb (mObj es clk) :: (R ++ G), (fun M w => Φ1 M w ∧ Elems M w (q.cs ++ news) (st.lines ++ L)), inferInstance, ?_, fun w G2 cx => ?_, fun w G2 cx => ⟨cx.can 0 rfl (by show 1 + 1 ≤ 6; decide), fun w6 hw6 => ?_⟩⟩
  · rw [bat_app]
    exact cz.perm (List.perm_middle (l₁ := [_, _]) (a := _)).symm
  · have cy : Ctx W w ([.blk q1.lb (LedXB q1 ⟨st.lines ++ L, st.bats⟩ C0 C1 C2) 79] ++ G2) (fun M w => Φ1 M w ∧ Elems M w (q.cs ++ news) (st.lines ++ L)) := cx.sub (List.Sublist.append (show List.Sublist _ (_ :: _ :: _ :: _ :: (R ++ G)) from .cons_cons _ (List.nil_sublist _)) (List.Sublist.refl G2))
    exact cy.weak fun _ _ _ => trivial
  have cw := cx.put 0 hw6 rfl
  have cw2 : Ctx W w6 ((LedO q2 (appP st no mark L) ++ R) ++ (G ++ G2)) (fun M w => Φ1 M w ∧ LF q2 (appP st no mark L) M w) := by
    rw [hq2]
    unfold appP
    simp only [LedO, LedB, LF, hC0, hC1, hC2]
    rw [hq1] at cw ⊢
    exact cw.re (by simp)
  have hel2 := cw2.phi.2
  have hlq : LedQ q2 (appP st no mark L) := {
    map := by rw [hq2]; exact hmo
    cnt := fun k => by rw [hq2]; show getM es k = cntL (st.lines ++ L) k; rw [cntL_app]; exact hcnt k
    lpt := fun h => by
      obtain ⟨g, hg, _⟩ := cw2.bufCell 1 rfl (by rw [elems_len7 hel2]; omega)
      exact ⟨g, hg⟩
    bpt := fun h => by
      obtain ⟨g, hg, _⟩ := cw2.bufCell 2 rfl (by
        have := (cw2.bufLen 2 rfl).1
        rw [this]; omega)
      exact ⟨g, hg⟩
    lcap := (cw2.bufLen 1 rfl).2
    cells := fun i hi => rows7 hel2 i hi
    len := elems_len7 hel2 }
  exact ⟨LedO q2 (appP st no mark L) ++ (R ++ G), _, inferInstance, cw2.re (by simp), fun w G3 cx => ⟨0, rfl, LedO q2 (appP st no mark L) ++ R, _, inferInstance, (cx.left).re (by simp), h1 q2 hz hfit (by rw [hq2, hq1]) hlq inferInstance⟩⟩
end
end Go.Proofs.YtbkpfhhhbhaecaaGreatDoor
end

section
set_option linter.unusedVariables false
set_option linter.unusedSimpArgs false
namespace Go.Proofs.YtbkpfhhhbhaecaaGreatDoor
open Go.Vc


def lineB (x : LineD) : ByteArray := intB x.time ++ textB (rowB x.row) ++ intB x.n ++ intB x.cause ++ intB x.why
def linesL (l : List LineD) : List UInt8 := l.flatMap fun x => (lineB x).data.toList
def batB (b : BatD) (s : Nat) : ByteArray := intB b.no ++ intB b.mark ++ natB ((b.stop - s : Nat) : Int)
def begP (l : List BatD) (i : Nat) : Nat := if i = 0 then 0 else (l[i - 1]?.map BatD.stop).getD 0
def segL (st : LedD) (i : Nat) : List UInt8 := match st.bats[i]? with
  | some b => (batB b (begP st.bats i)).data.toList ++ linesL ((st.lines.drop (begP st.bats i)).take (b.stop - begP st.bats i))
  | none => []
def segsL (st : LedD) (n : Nat) : List UInt8 := (List.range n).flatMap (segL st)
def ledL (st : LedD) : List UInt8 := (natB (st.bats.length : Int)).data.toList ++ segsL st st.bats.length
def BatsOk (st : LedD) : Prop := (∀ i (h : i < st.bats.length), begP st.bats i ≤ st.bats[i].stop) ∧ ∀ b ∈ st.bats, I64 b.no ∧ I64 b.mark

theorem linesL_app (a b : List LineD) : linesL (a ++ b) = linesL a ++ linesL b := by simp [linesL]
theorem linesL_one (x : LineD) : linesL [x] = (lineB x).data.toList := by simp [linesL]
theorem segsL_step (st : LedD) (n : Nat) : segsL st (n + 1) = segsL st n ++ segL st n := by simp [segsL, List.range_succ]
theorem begP_succ {l : List BatD} {i : Nat} (h : i < l.length) : begP l (i + 1) = l[i].stop := by
  unfold begP
  rw [if_neg (by omega), Nat.add_sub_cancel, List.getElem?_eq_getElem h]; rfl
structure LineW (x : LineD) : Prop where
  inn : x.In
  val : ∀ v ∈ x.row, (I64 v.kind ∧ I64 v.num) ∧ v.text.size ≤ 300
  row : x.row.length ≤ 13
theorem rowB_small {r : List ValD} (h1 : r.length ≤ 13) (h2 : ∀ v ∈ r, (I64 v.kind ∧ I64 v.num) ∧ v.text.size ≤ 300) : (rowB r).size ≤ 4753 := by
  have hL := rowL_len h2 (by decide) (by omega)
  have : r.length * (300 + 64) ≤ 13 * 364 := Nat.mul_le_mul h1 (Nat.le_refl _)
  unfold rowB
  rw [size_list]; omega
theorem lineB_size {x : LineD} (h : LineW x) : (lineB x).size ≤ 5000 := by
  have h1 := intB_size h.inn.time
  have h2 := intB_size h.inn.n
  have h3 := intB_size h.inn.cause
  have h4 := intB_size h.inn.why
  have h5 := rowB_small h.row h.val
  have h6 := textB_size (s := rowB x.row) (by omega)
  unfold lineB
  rw [size_app, size_app, size_app, size_app]; omega
theorem linesL_len : ∀ {l : List LineD}, (∀ x ∈ l, LineW x) → (linesL l).length ≤ l.length * 5000
  | [], _ => by simp [linesL]
  | x :: l, h => by
    have ih := linesL_len (l := l) fun y hy => h y (by simp [hy])
    have hx := lineB_size (h x (by simp))
    show ((lineB x).data.toList ++ linesL l).length ≤ _
    rw [List.length_append, list_size, List.length_cons, Nat.add_mul]; omega
theorem batB_size {b : BatD} (h1 : I64 b.no) (h2 : I64 b.mark) {s : Nat} (h3 : b.stop ≤ 1000000) : (batB b s).size ≤ 63 := by
  have g1 := intB_size h1
  have g2 := intB_size h2
  have g3 := natB_size (n := ((b.stop - s : Nat) : Int)) (by unfold I64; omega)
  unfold batB
  rw [size_app, size_app]; omega
theorem segs_len {st : LedD} (hw : ∀ x ∈ st.lines, LineW x) (hb : BatsOk st) (hs : LedS st) : ∀ i, i ≤ st.bats.length → (segsL st i).length ≤ i * 63 + begP st.bats i * 5000
  | 0, _ => by simp [segsL, begP]
  | i + 1, hi => by
    have ih := segs_len hw hb hs i (by omega)
    have hlt : i < st.bats.length := by omega
    have h1 := hb.1 i hlt
    have h2 := hb.2 st.bats[i] (List.getElem_mem _)
    have h3 := hs.stop st.bats[i] (List.getElem_mem _)
    have h4 := hs.lines
    have g1 := batB_size h2.1 h2.2 (s := begP st.bats i) (by omega)
    have g2 := linesL_len (l := (st.lines.drop (begP st.bats i)).take (st.bats[i].stop - begP st.bats i)) fun x hx => hw x (List.mem_of_mem_drop (List.mem_of_mem_take hx))
    rw [segsL_step, begP_succ hlt, List.length_append]
    unfold segL
    rw [List.getElem?_eq_getElem hlt]
    simp only
    rw [List.length_append, list_size]
    have g3 : ((st.lines.drop (begP st.bats i)).take (st.bats[i].stop - begP st.bats i)).length = st.bats[i].stop - begP st.bats i := by
      rw [List.length_take, List.length_drop]; omega
    rw [g3] at g2
    have : begP st.bats i * 5000 + (st.bats[i].stop - begP st.bats i) * 5000 = st.bats[i].stop * 5000 := by rw [← Nat.add_mul]; congr 1; omega
    omega

section
variable {Φ : PW} {q : LP} {st : LedD} {W w : World} {R S G : List Own}

theorem lines_w (hq : LedQ q st) (hs : LedS st) {M : List Nat} (h : Elems M w q.cs st.lines) : ∀ x ∈ st.lines, LineW x := fun x hx => by
  have hr := hs.row x hx
  have ht := hs.text x hx
  obtain ⟨i, hi, rfl⟩ := List.getElem_of_mem hx
  obtain ⟨p, c, he, _, _, h3⟩ := hq.cells i hi
  exact ⟨h3, fun v hv => ⟨(sl_i64 (led_row h hi he) v hv).1, ht v hv⟩, hr⟩

set_option maxHeartbeats 4000000 in
theorem Bytes_q [Stable Φ] [hT : Has Φ TabI] [hF : Has Φ (LF q st)] (hq : LedQ q st) (hs : LedS st) (hb : BatsOk st) : GivesQ (LedO q st) Φ Tryz.prog F.ledger_Ledger_Bytes #[led q] (.string ⟨(ledL st).toArray⟩) := by
  have hsl := hs.lines
  have hsb := hs.bats
  refine gives_q (Bledger_Ledger_Bytes_run q.lb 0) fun W R => fun b w G cx => ?_
  have hw := lines_w hq hs (hF.go _ _ cx.phi)
  have hlen := segs_len hw hb hs
  have cell1 : ∀ {Q : List Own} {w : World} {G : List Own}, Ctx W w ((Q ++ (LedO q st ++ R)) ++ G) Φ → w.cell? ⟨q.lb, 0 + 1, none⟩ = some (.slice q.bp st.bats.length q.bc) := fun cx => led_cell (i := 1) (Ctx.dropF cx) rfl
  have cell0 : ∀ {Q : List Own} {w : World} {G : List Own}, Ctx W w ((Q ++ (LedO q st ++ R)) ++ G) Φ → w.cell? ⟨q.lb, 0, none⟩ = some (.slice q.lp st.lines.length q.lc) := fun cx => led_cell (i := 0) (Ctx.dropF cx) rfl
  have hnat := natB_size (n := (st.bats.length : Int)) (by unfold I64; omega)
  refine ⟨_, _, _, led_cell (i := 1) (Ctx.drop1 cx) rfl, fun w G cx => (Num_in (.inl ⟨hT.go, by unfold I64; omega⟩)).toS cx fun w G cx => ?_⟩
  refine WriteString_use (natB (st.bats.length : Int)) Bd.nil (Bd.fresh cx) (by simp only [List.length_nil]; omega) fun R1 w hB cx => ⟨_, _, rfl, R1 ++ (LedO q st ++ R), Φ, inferInstance, by rw [List.append_assoc]; exact cx, ?_⟩
  rw [List.nil_append] at hB
  clear cx
  refine fun w G cx => ⟨_, _, _, cell1 cx, ?_⟩
  clear cx
  refine exI_mk (fun sI iI R' Φ' k => ∃ (i : Nat) (Q : List Own), iI = i ∧ i ≤ st.bats.length ∧ sI = (begP st.bats i : Nat) ∧ BdT b ((natB (st.bats.length : Int)).data.toList ++ segsL st i) Q ∧ R' = Q ++ (LedO q st ++ R) ∧ Φ' = Φ ∧ k = st.bats.length - i) ⟨⟨_, _, _, inferInstance, fun w G cx => cx, 0, R1, rfl, Nat.zero_le _, rfl, by rw [show segsL st 0 = [] from rfl, List.append_nil]; exact hB, rfl, rfl, rfl⟩, ?_⟩
  clear hB
  rintro sI iI R2 Φ2 k _ ⟨i, Q, rfl, hi, rfl, hQ, rfl, rfl, rfl⟩
  refine Br.intro (fun hlt => ?_) (fun hge => fun w G cx => ?_)
  · have hlt : i < st.bats.length := by have := of_decide_eq_true hlt; omega
    obtain ⟨g, hg⟩ := hq.bpt (by omega)
    have hbe := hb.1 i hlt
    obtain ⟨hn1, hn2⟩ := hb.2 st.bats[i] (List.getElem_mem _)
    have hst := hs.stop st.bats[i] (List.getElem_mem _)
    have hli := hlen i hi
    have g1 := intB_size hn1
    have g2 := intB_size hn2
    have hbs := begP_succ hlt
    obtain ⟨s, hss⟩ : ∃ s, begP st.bats i = s := ⟨_, rfl⟩
    have hseg : segL st i = (batB st.bats[i] s).data.toList ++ linesL ((st.lines.drop s).take (st.bats[i].stop - s)) := by
      unfold segL
      rw [List.getElem?_eq_getElem hlt, ← hss]
    have hsz := batB_size hn1 hn2 (s := s) (by omega)
    rw [hss] at hbe hli ⊢
    obtain ⟨e, hee⟩ : ∃ e, st.bats[i].stop = e := ⟨_, rfl⟩
    have g3 := natB_size (n := ((e - s : Nat) : Int)) (by unfold I64; omega)
    refine ⟨by omega, ptrK_intro g 0 hg fun w G cx => ⟨st.bats[i].no, st.bats[i].mark, (st.bats[i].stop : Int), by rw [Int.toNat_natCast]; exact led_bat (Ctx.dropF cx) hg hlt, fun _ => ⟨Q ++ (LedO q st ++ R), Φ2, inferInstance, fun w G cx => cx, by unfold I64; omega, fun w G cx => ?_⟩⟩⟩
    rw [hee] at hbe hst hseg hbs ⊢
    rw [show ((e : Nat) : Int) - ((s : Nat) : Int) = ((e - s : Nat) : Int) by omega]
    refine (Int_in (.inl ⟨hT.go, hn1⟩)).toS cx ⟨fun w G cx => cx, fun w G cx => (Int_in (.inl ⟨hT.go, hn2⟩)).toS cx ⟨fun w G cx => cx, by show (intB st.bats[i].no).size + (intB st.bats[i].mark).size ≤ _; omega, fun w G cx => (Num_in (.inl ⟨hT.go, by unfold I64; omega⟩)).toS cx ⟨fun w G cx => cx, by show (intB st.bats[i].no ++ intB st.bats[i].mark).size + (natB ((e - s : Nat) : Int)).size ≤ _; rw [size_app]; omega, fun w G cx => ?_⟩⟩⟩
    have hbB : batB st.bats[i] s = intB st.bats[i].no ++ intB st.bats[i].mark ++ natB ((e - s : Nat) : Int) := by unfold batB; rw [hee]
    rw [← hbB]
    have hbud : i * 63 + s * 5000 ≤ 600000 * 63 + 150000 * 5000 := Nat.add_le_add (Nat.mul_le_mul_right _ (by omega)) (Nat.mul_le_mul_right _ (by omega))
    refine WriteString_use (batB st.bats[i] s) hQ (cx.re (List.append_assoc _ _ _)) (by rw [List.length_append, list_size]; omega) fun Q2 w hQ2 cx => ⟨_, _, rfl, Q2 ++ (LedO q st ++ R), Φ2, inferInstance, by rw [List.append_assoc]; exact cx, ?_⟩
    clear cx
    have hlc := hq.lcap.1
    refine fun w G cx => ⟨_, _, _, cell0 cx, ⟨by omega, by omega, by omega⟩, ?_⟩
    have hsrc := src_led (Φ := Φ2) hq hF.go s (e - s) (by omega)
    have hcel := rows7 (hsrc.el _ _ cx.phi)
    clear cx
    rw [Int.toNat_natCast, Int.toNat_natCast]
    obtain ⟨L, hL⟩ : ∃ L, (st.lines.drop s).take (e - s) = L := ⟨_, rfl⟩
    have hLn : L.length = e - s := by rw [← hL, List.length_take, List.length_drop]; omega
    have hLw : ∀ x ∈ L, LineW x := fun x hx => hw x (by rw [← hL] at hx; exact List.mem_of_mem_drop (List.mem_of_mem_take hx))
    rw [hL] at hsrc hcel hseg
    obtain ⟨pre, hpre⟩ : ∃ pre, (natB (st.bats.length : Int)).data.toList ++ segsL st i ++ (batB st.bats[i] s).data.toList = pre := ⟨_, rfl⟩
    have hprel : pre.length ≤ 1000000000 := by rw [← hpre, List.length_append, List.length_append, list_size, list_size]; omega
    rw [hpre] at hQ2
    refine exI_mk (fun jI R' Φ' k => ∃ (j : Nat) (Q : List Own), jI = j ∧ j ≤ L.length ∧ BdT b (pre ++ linesL (L.take j)) Q ∧ R' = Q ++ (LedO q st ++ R) ∧ Φ' = Φ2 ∧ k = L.length - j) ⟨⟨_, _, _, inferInstance, fun w G cx => cx, 0, Q2, rfl, Nat.zero_le _, by rw [List.take_zero, show linesL [] = [] from rfl, List.append_nil]; exact hQ2, rfl, rfl, rfl⟩, ?_⟩
    clear hQ2
    rintro jI R3 Φ3 k3 _ ⟨j, Q3, rfl, hj, hQ3, rfl, rfl, rfl⟩
    refine Br.intro (fun hlt2 => ?_) (fun hge2 => ⟨by unfold I64; omega, _, Φ3, st.bats.length - (i + 1), inferInstance, fun w G cx => cx, ⟨i + 1, Q3, by omega, hlt, by rw [hbs], ?_, rfl, rfl, rfl⟩, by omega⟩)
    · have hlt2 : j < L.length := by have := of_decide_eq_true hlt2; omega
      obtain ⟨bb, oo, hp⟩ := hsrc.ptr (by omega)
      obtain ⟨r, rc, he, k1, k2, k3⟩ := hcel j hlt2
      have hlw := hLw L[j] (List.getElem_mem _)
      have hrs := rowB_small hlw.row hlw.val
      have s1 := intB_size hlw.inn.time
      have s2 := intB_size hlw.inn.n
      have s3 := intB_size hlw.inn.cause
      have s4 := intB_size hlw.inn.why
      have s5 := textB_size (s := rowB L[j].row) (by omega)
      have hlB := lineB_size hlw
      have hpl := linesL_len (l := L.take j) fun x hx => hLw x (List.mem_of_mem_take hx)
      rw [List.length_take] at hpl
      have hpl2 : min j L.length * 5000 ≤ 150000 * 5000 := Nat.mul_le_mul_right _ (by omega)
      have hstep : linesL (L.take (j + 1)) = linesL (L.take j) ++ (lineB L[j]).data.toList := by rw [List.take_succ_eq_append_getElem hlt2, linesL_app, linesL_one]
      refine ⟨by omega, ptrK_intro bb oo hp fun w G cx => ⟨L[j].no, L[j].batch, L[j].time, r, L[j].row.length, rc, L[j].n, L[j].cause, L[j].why, by rw [Int.toNat_natCast]; exact src_at (S := LedO q st) (G := R ++ G) hsrc hp ((Ctx.dropF cx).re (List.append_assoc _ _ _)) he, fun _ => ⟨Q3 ++ (LedO q st ++ R), Φ3, inferInstance, fun w G cx => cx, fun w G cx => ?_⟩⟩⟩
      refine (Int_in (.inl ⟨hT.go, hlw.inn.time⟩)).toS cx ⟨fun w G cx => cx, fun w G cx => (RowBytes_in r rc L[j].row hT.go (fun M w h => src_sl hsrc hlt2 he h) (by have := hlw.row; omega) (fun v hv => by have := (hlw.val v hv).2; omega)).toS cx ⟨fun w G cx => cx, fun w G cx => (Text_in (.inl ⟨hT.go, by unfold I64; omega⟩) (by omega)).toS cx ⟨fun w G cx => cx, by show (intB L[j].time).size + (textB (rowB L[j].row)).size ≤ _; omega, fun w G cx => (Int_in (.inl ⟨hT.go, hlw.inn.n⟩)).toS cx ⟨fun w G cx => cx, by show (intB L[j].time ++ textB (rowB L[j].row)).size + (intB L[j].n).size ≤ _; rw [size_app]; omega, fun w G cx => (Int_in (.inl ⟨hT.go, hlw.inn.cause⟩)).toS cx ⟨fun w G cx => cx, by show (intB L[j].time ++ textB (rowB L[j].row) ++ intB L[j].n).size + (intB L[j].cause).size ≤ _; rw [size_app, size_app]; omega, fun w G cx => (Int_in (.inl ⟨hT.go, hlw.inn.why⟩)).toS cx ⟨fun w G cx => cx, by show (intB L[j].time ++ textB (rowB L[j].row) ++ intB L[j].n ++ intB L[j].cause).size + (intB L[j].why).size ≤ _; rw [size_app, size_app, size_app]; omega, fun w G cx => ?_⟩⟩⟩⟩⟩⟩
      refine WriteString_use (lineB L[j]) hQ3 (cx.re (List.append_assoc _ _ _)) (by rw [List.length_append]; omega) fun Q4 w hQ4 cx => ⟨_, _, rfl, Q4 ++ (LedO q st ++ R), Φ3, inferInstance, by rw [List.append_assoc]; exact cx, by unfold I64; omega, _, Φ3, L.length - (j + 1), inferInstance, fun w G cx => cx, ⟨j + 1, Q4, by omega, hlt2, ?_, rfl, rfl, rfl⟩, by omega⟩
      rw [hstep, ← List.append_assoc]; exact hQ4
    · have hge2 : j = L.length := by have := of_decide_eq_false hge2; omega
      subst hge2
      rw [List.take_length] at hQ3
      rw [segsL_step, hseg, ← List.append_assoc, ← List.append_assoc, hpre]
      exact hQ3
  · have hge : i = st.bats.length := by have := of_decide_eq_false hge; omega
    subst hge
    exact String_use hQ (cx.re (List.append_assoc _ _ _)) fun w cx => ⟨_, rfl, LedO q st ++ R, Φ2, inferInstance, cx, fun w G cx => ⟨rfl, cx.left⟩⟩
end
end Go.Proofs.YtbkpfhhhbhaecaaGreatDoor
end

section
set_option linter.unusedVariables false
set_option linter.unusedSimpArgs false
namespace Go.Proofs.YtbkpfhhhbhaecaaGreatDoor
open Go.Vc


def shortB (r : List ValD) (n : Int) : Bool := (r.all fun v => decide (v.text.size ≤ 300)) && decide ((r.length : Int) ≤ n)

abbrev ValD.cells (x : ValD) : List Value := [.int .i64 x.kind, .int .i64 x.num, .string x.text]
theorem val_rep {M : List Nat} {w : World} {v : ValD} (h : (I64 v.kind ∧ I64 v.num) ∧ v.text.size ≤ maxLen) : Gv.rep M w v.cells v :=
  ⟨[.int .i64 v.kind], [.int .i64 v.num, .string v.text], rfl, ⟨rfl, h.1.1⟩, [.int .i64 v.num], [.string v.text], rfl, ⟨rfl, h.1.2⟩, rfl, h.2⟩
section
variable {Φ : PW} {p q : Option Addr} {cap cap2 : Nat} {r a b : List ValD} {W w : World} {R G : List Own}

theorem Short_in [Stable Φ] {n : Int} [hΦ : Has Φ (fun M w => Sl M w p r)] (hlen : r.length ≤ maxLen) : GivesIn Φ Tryz.prog F.errataref03_Short #[.slice p r.length cap, .int .i64 n] (.bool (shortB r n)) := by
  refine .there (fun M w h => (hΦ.go M w h).there) fun hta => ?_
  refine gives_in (Berrataref03_Short_run p r.length cap n) fun W R => ?_
  refine exI_mk (fun n R' Φ' k => ∃ i : Nat, n = i ∧ i ≤ r.length ∧ R' = R ∧ Φ' = Φ ∧ k = r.length - i ∧ ∀ v ∈ r.take i, v.text.size ≤ 300) ⟨⟨R, Φ, _, inferInstance, fun w F c => c, 0, rfl, Nat.zero_le _, rfl, rfl, rfl, by simp⟩, ?_⟩
  rintro n R1 Φ1 k _ ⟨i, rfl, hi, rfl, rfl, rfl, hs⟩
  refine Br.intro (fun hlt => ?_) (fun hge => fun w G cx => ⟨?_, cx.left⟩)
  · have hlt : i < r.length := by have := of_decide_eq_true hlt; omega
    obtain ⟨g1, o1, rfl⟩ := hta (by omega)
    refine ⟨by omega, ptrK_intro g1 o1 rfl fun w G cx => ⟨r[i].text, ?_, Br.intro (fun h => fun w G cx => ⟨?_, cx.left⟩) (fun h => ⟨by unfold I64; unfold maxLen at hlen; omega, R1, Φ1, r.length - (i + 1), inferInstance, fun w G cx => cx, ⟨i + 1, rfl, hlt, rfl, rfl, rfl, ?_⟩, by omega⟩)⟩⟩
    · rw [Int.toNat_natCast]
      exact sl_val (hΦ.go _ _ cx.phi) hlt 2 (by simp)
    · have h := of_decide_eq_true h
      unfold shortB
      rw [List.all_eq_false.2 ⟨r[i], List.getElem_mem _, by simp; omega⟩]; rfl
    · have h := of_decide_eq_false h
      rw [List.take_succ_eq_append_getElem hlt]
      intro v hv
      rcases List.mem_append.1 hv with hv | hv
      · exact hs v hv
      · rw [List.mem_singleton.1 hv]; omega
  · have hge : i = r.length := by have := of_decide_eq_false hge; omega
    subst hge
    rw [List.take_length] at hs
    unfold shortB
    rw [List.all_eq_true.2 fun v hv => decide_eq_true (hs v hv)]; rfl

theorem Same03_in [Stable Φ] [hΦ : Has Φ (fun M w => Sl M w p a)] [hΨ : Has Φ (fun M w => Sl M w q b)] (ha : a.length ≤ 1000000) : GivesIn Φ Tryz.prog F.slices_Equal_api_Value_api_Value #[.slice p a.length cap, .slice q b.length cap2] (.bool (decide (a = b))) := by
  refine .there (fun M w h => (hΦ.go M w h).there) fun hta => .there (fun M w h => (hΨ.go M w h).there) fun htb => ?_
  refine gives_in (Bslices_Equal_api_Value_api_Value_run p a.length cap q b.length cap2) fun W R => Br.intro (fun hn => fun w G cx => ⟨?_, cx.left⟩) (fun hn => ?_)
  · have hn := of_decide_eq_true hn
    rw [decide_eq_false fun e => hn (by rw [e])]
  have hn : b.length = a.length := by have := Decidable.not_not.1 (of_decide_eq_false hn); omega
  refine exI_mk (fun n R' Φ' k => ∃ i : Nat, n = i ∧ i ≤ a.length ∧ R' = R ∧ Φ' = Φ ∧ k = a.length - i ∧ a.take i = b.take i) ⟨⟨R, Φ, _, inferInstance, fun w F c => c, 0, rfl, Nat.zero_le _, rfl, rfl, rfl, rfl⟩, ?_⟩
  rintro n R1 Φ1 k _ ⟨i, rfl, hi, rfl, rfl, rfl, hs⟩
  refine Br.intro (fun hlt => ?_) (fun hge => fun w G cx => ⟨?_, cx.left⟩)
  · have hlt : i < a.length := by have := of_decide_eq_true hlt; omega
    obtain ⟨g1, o1, rfl⟩ := hta (by omega)
    obtain ⟨g2, o2, rfl⟩ := htb (by omega)
    have hlt2 : i < b.length := by omega
    have he : (decide (a[i].kind = b[i].kind) && (decide (a[i].num = b[i].num) && (decide (a[i].text = b[i].text) && true))) = decide (a[i] = b[i]) := by
      rw [Bool.and_true, ← Bool.decide_and, ← Bool.decide_and]
      exact decide_eq_decide.2 val_ext.symm
    refine fun w G cx => ⟨by omega, ptrK_intro g1 o1 rfl ⟨a[i].kind, a[i].num, a[i].text, by rw [Int.toNat_natCast]; exact sl_val (hΦ.go _ _ cx.phi) hlt, by omega, ptrK_intro g2 o2 rfl ⟨b[i].kind, b[i].num, b[i].text, by rw [Int.toNat_natCast]; exact sl_val (hΨ.go _ _ cx.phi) hlt2, by kernel_rfl, ?_⟩⟩⟩
    rw [he]
    refine Br.intro (fun h => fun w G cx => ⟨?_, cx.left⟩) (fun h => ⟨by unfold I64; omega, R1, Φ1, a.length - (i + 1), inferInstance, fun w G cx => cx, ⟨i + 1, rfl, hlt, rfl, rfl, rfl, ?_⟩, by omega⟩)
    · have h : ¬ a[i] = b[i] := by simpa using h
      rw [decide_eq_false fun e => h (by subst e; rfl)]
    · have h : a[i] = b[i] := by simpa using h
      rw [List.take_succ_eq_append_getElem hlt, List.take_succ_eq_append_getElem hlt2, hs, h]
  · have hge : i = a.length := by have := of_decide_eq_false hge; omega
    subst hge
    rw [List.take_length, ← hn, List.take_length] at hs
    rw [decide_eq_true hs]
theorem SameRows_in [Stable Φ] [hΦ : Has Φ (fun M w => Sl M w p a)] [hΨ : Has Φ (fun M w => Sl M w q b)] (ha : a.length ≤ 1000000) : GivesIn Φ Tryz.prog F.value_SameRows #[.slice p a.length cap, .slice q b.length cap2] (.bool (decide (a = b))) := by
  refine gives_in (Bvalue_SameRows_run p a.length cap q b.length cap2) fun W R => ?_
  exact fun w G cx => (Same03_in ha).toB cx fun w G cx => ⟨rfl, cx.left⟩

theorem short_out {r : List ValD} {n : Int} (h : shortB r n = true) : (∀ v ∈ r, v.text.size ≤ 300) ∧ (r.length : Int) ≤ n := by
  unfold shortB at h
  rw [Bool.and_eq_true] at h
  exact ⟨fun v hv => of_decide_eq_true (List.all_eq_true.1 h.1 v hv), of_decide_eq_true h.2⟩
end
end Go.Proofs.YtbkpfhhhbhaecaaGreatDoor
end

