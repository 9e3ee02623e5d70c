/-
  For every input erratalaw42.DifferenceLines returns true, does not panic, comes to an end, and leaves what came in as it was.
  Conditions: none beyond the given statement's own (DifferenceLinesSaid).
-/
import Derived.Test.YtnapfhbibikbiaaLn5
import Derived.Lib.Strings
import Derived.Lib.Walk
import Derived.Test.YtnapfhbibikbiaaRows

/-
  The walks of the comparisons of values, rows and deltas; of Clone.
-/
section
set_option linter.unusedVariables false
set_option linter.unusedSimpArgs false
namespace Go.Proofs.Ytnapfhbibikbiaa
open Go.Vc


set_option maxHeartbeats 1000000 in
set_option maxRecDepth 100000 in
theorem bytealg_CompareString (a b : ByteArray) (w : World) :
    Calls Try.prog 40 #[.string a, .string b] w fun e w' => e = .returned (.int .i64 (Lib.compareBytes a.data.toList b.data.toList)) ∧ w' = w := by
  go_enter Try.func40, Try.ntmps40
  go_wp2
  rw [run_callFunc_extern Try.func42 (by kernel_rfl) (by kernel_rfl) (by kernel_rfl) (e := Extern.BytealgCompare.compare) (by kernel_rfl), Lib.run_compareString]
  simp only [Result.andThen]
  rw [Oper.upon_value]
  go_wp2
  go_ret
  exact ⟨rfl, rfl⟩

set_option maxHeartbeats 1000000 in
theorem strings_Compare (a b : ByteArray) (w : World) :
    Calls Try.prog 38 #[.string a, .string b] w fun e w' => e = .returned (.int .i64 (Lib.compareBytes a.data.toList b.data.toList)) ∧ w' = w := by
  go_enter Try.func38, Try.ntmps38
  go_wp2_with (go_at_call 40; refine (bytealg_CompareString _ _ _).mono ?_; rintro e w' ⟨rfl, rfl⟩)
  go_ret
  exact ⟨rfl, rfl⟩

theorem sl_val {M : List Nat} {w : World} {b o : Nat} {l : List ValD} (h : Sl M w (some ⟨b, o, none⟩) l) {i : Nat} (hi : i < l.length) : RowAt w b (o + i * 3) [.int .i64 l[i].kind, .int .i64 l[i].num, .string l[i].text] := by
  obtain ⟨b', o', cs, e, _, h3, _, _, rfl, ⟨rfl, _⟩, _, _, rfl, ⟨rfl, _⟩, rfl, _⟩ := h i hi
  cases e
  exact h3

theorem sl_int {M : List Nat} {w : World} {b o : Nat} {l : List Int} (h : Sl M w (some ⟨b, o, none⟩) l) {i : Nat} (hi : i < l.length) : w.cell? ⟨b, o + i, none⟩ = some (.int .i64 l[i]) := by
  obtain ⟨b', o', cs, e, _, h3, rfl, _⟩ := h i hi
  cases e
  have := h3 0 (by simp)
  simpa [show (Gv.ty Int).size = 1 from rfl] using this

theorem isNaN_g (x : Int) : Gives Try.prog F.cmp_isNaN_int #[.int .i64 x] (.bool false) :=
  gives_of (Bcmp_isNaN_int_run x) fun W R Φ _ => fun w F c => ⟨by simp, c.left⟩

theorem cmp_g (x y : Int) : Gives Try.prog F.cmp_Compare_int #[.int .i64 x, .int .i64 y] (.int .i64 (cmpI x y)) := by
  refine gives_of (Bcmp_Compare_int_run x y) fun W R Φ _ => ?_
  refine fun w F c => (isNaN_g _).use c fun w c => ⟨_, rfl, _, _, inferInstance, c, fun w F c => (isNaN_g _).use c fun w c => ⟨_, rfl, _, _, inferInstance, c, Br.intro (fun h => by cases h) (fun _ => Br.intro (fun h => by cases h) (fun _ => Br.intro (fun h => fun w F c => ⟨?_, c.left⟩) (fun h => Br.intro (fun h2 => fun w F c => ⟨?_, c.left⟩) (fun h2 => fun w F c => ⟨?_, c.left⟩))))⟩⟩
  · unfold cmpI; rw [if_pos (by simpa using h)]
  · have h : ¬ x < y := by simpa using h
    unfold cmpI; rw [if_neg h, if_pos (by simpa using h2)]
  · have h : ¬ x < y := by simpa using h
    have h2 : ¬ y < x := by simpa using h2
    unfold cmpI; rw [if_neg h, if_neg h2]

theorem orI_drop (l : List Int) (i : Nat) (hi : i < l.length) : orI (l.drop i) = if l[i] ≠ 0 then l[i] else orI (l.drop (i + 1)) := by
  rw [List.drop_eq_getElem_cons hi]; rfl

theorem or_in {Φ : PW} [Stable Φ] (p : Option Addr) (cap : Nat) (l : List Int) (hΦ : ∀ M w, Φ M w → Sl M w p l) (hlen : l.length ≤ 1000000) :
    GivesIn Φ Try.prog F.cmp_Or_int #[.slice p l.length cap] (.int .i64 (orI l)) := by
  refine .there (fun M w h => (hΦ M w h).there) fun hth => ?_
  refine gives_in (Bcmp_Or_int_run p l.length cap) fun W R => ?_
  refine exI_mk (fun n R' Φ' k => ∃ i : Nat, n = i ∧ i ≤ l.length ∧ R' = R ∧ Φ' = Φ ∧ k = l.length - i ∧ orI l = orI (l.drop i)) ⟨⟨R, Φ, _, inferInstance, fun w F c => c, 0, rfl, Nat.zero_le _, rfl, rfl, rfl, rfl⟩, ?_⟩
  rintro n R1 Φ1 k _ ⟨i, rfl, hi, rfl, rfl, rfl, hor⟩
  refine Br.intro (fun hlt => ?_) (fun hge => fun w F cx => ⟨?_, cx.left⟩)
  · have hlt : i < l.length := by simpa using hlt
    obtain ⟨b, o, rfl⟩ := hth (by omega)
    rw [orI_drop l i hlt] at hor
    refine ⟨by omega, ptrK_intro b o rfl fun w F cx => ⟨_, sl_int (hΦ _ _ cx.phi) hlt, Br.intro (fun h => fun w F cx => ⟨?_, cx.left⟩) (fun h => ⟨by unfold I64; omega, R1, Φ1, l.length - (i + 1), inferInstance, fun w F c => c, ⟨i + 1, rfl, hlt, rfl, rfl, rfl, ?_⟩, by omega⟩)⟩⟩
    · have h : l[i] ≠ 0 := by simpa using h
      rw [hor, if_pos h]
    · have h : ¬ l[i] ≠ 0 := by simpa using h
      rw [hor, if_neg h]
  · have hge : i = l.length := Nat.le_antisymm hi (by simpa using hge)
    rw [hor, hge, List.drop_length]
    rfl

theorem I64_bd {x : Int} (h : -1 ≤ x ∧ x ≤ 1) : I64 x := by unfold I64; omega

theorem ints_elems {M : List Nat} {w : World} : ∀ (l : List Int), (∀ x ∈ l, I64 x) → Elems M w (l.map fun x => .int .i64 x) l := by
  intro l h
  refine ⟨by simp [show (Gv.ty Int).size = 1 from rfl], fun j hj => ?_⟩
  rw [show (Gv.ty Int).size = 1 from rfl, Nat.mul_one, rep_int]
  refine ⟨?_, h _ (List.getElem_mem _)⟩
  apply List.ext_getElem?
  intro i
  rcases i with _ | i
  · rw [List.getElem?_take_of_lt (by omega), List.getElem?_drop]; simp [hj]
  · simp; omega

theorem tcmp_g (x y : ByteArray) : Gives Try.prog F.strings_Compare #[.string x, .string y] (.int .i64 (cmpT x y)) :=
  Quiet.gives ⟨fun w => strings_Compare x y w⟩

/-- a made block of ints, handed to cmp.Or -/
theorem or_blk {W w : World} {S : List Own} {Φ : PW} [Stable Φ] {k : Nat} {t : TypeId} (l : List Int) (cap : Nat) (hl : ∀ x ∈ l, I64 x) (hlen : l.length ≤ 1000000) (c : Ctx W w (.blk k (l.map fun x => .int .i64 x) t :: S) Φ)
    {K : Ending → World → Prop} (hk : ∀ w', Ctx W w' S Φ → K (.returned (.int .i64 (orI l))) w') : Calls Try.prog F.cmp_Or_int #[.slice (some ⟨k, 0, none⟩) l.length cap] w K := by
  obtain ⟨c', hs⟩ := c.freezeBlk (ints_elems l hl)
  exact (or_in (Φ := fun M w => Φ M w ∧ Sl M w (some ⟨k, 0, none⟩) l) (some ⟨k, 0, none⟩) cap l (fun _ _ h => h.2) hlen).use (c'.add hs) fun w' c => hk w' c.fst

theorem cmpV_g (x y : ValD) : Gives Try.prog F.value_Compare #[x.v, y.v] (.int .i64 (cmpV x y)) := by
  refine gives_of (Bvalue_Compare_run x.kind x.num x.text y.kind y.num y.text) fun W R Φ _ => ?_
  refine fun _ _ => ⟨R, Φ, inferInstance, fun _ _ c => c, fun w F c => (cmp_g _ _).use c fun w c => ⟨_, rfl, R, Φ, inferInstance, c, fun _ _ c => c, fun w F c => (cmp_g _ _).use c fun w c => ⟨_, rfl, R, Φ, inferInstance, c, fun _ _ c => c, fun w F c => (tcmp_g _ _).use c fun w c => ⟨_, rfl, R, Φ, inferInstance, c, fun k w F c => ?_⟩⟩⟩⟩
  refine or_blk (cmpL x y) 3 (fun u hu => ?_) (by simp) c fun w c => ⟨_, rfl, R, Φ, inferInstance, c, fun w F c => ⟨rfl, c.left⟩⟩
  simp only [cmpL, List.mem_cons, List.not_mem_nil, or_false] at hu
  rcases hu with rfl | rfl | rfl
  · exact I64_bd (cmpI_cmp.bd _ _)
  · exact I64_bd (cmpI_cmp.bd _ _)
  · exact I64_bd (cmpT_cmp.bd _ _)

theorem CompareRows_in {Φ : PW} [Stable Φ] (p q : Option Addr) (cap cap2 : Nat) (l r : List ValD) (hΦ : ∀ M w, Φ M w → Sl M w p l) (hΨ : ∀ M w, Φ M w → Sl M w q r) (hlen : l.length ≤ 9223372036854775807) :
    GivesIn Φ Try.prog F.value_CompareRows #[.slice p l.length cap, .slice q r.length cap2] (.int .i64 (cmpR l r)) := by
  refine .there (fun M w h => (hΦ M w h).there) fun hth => .there (fun M w h => (hΨ M w h).there) fun hth2 => ?_
  refine gives_in (Bvalue_CompareRows_run p l.length cap q r.length cap2) fun W R => fun w0 F0 c0 => ?_
  refine GivesIn.use ?_ c0 fun w c => ⟨_, rfl, R, Φ, inferInstance, c, fun w F c => ⟨rfl, c.left⟩⟩
  refine gives_in (Bslices_CompareFunc_api_Value__api_Value_api_Value_api_Value_run p l.length cap q r.length cap2 34 #[]) fun W R => ?_
  refine exI_mk (fun n R' Φ' k => ∃ i : Nat, n = i ∧ i ≤ l.length ∧ i ≤ r.length ∧ R' = R ∧ Φ' = Φ ∧ k = l.length - i ∧ cmpR l r = cmpR (l.drop i) (r.drop i)) ⟨⟨R, Φ, _, inferInstance, fun w F c => c, 0, rfl, Nat.zero_le _, Nat.zero_le _, rfl, rfl, rfl, rfl⟩, ?_⟩
  rintro n R1 Φ1 k _ ⟨i, rfl, hi, hr, rfl, rfl, rfl, hcm⟩
  refine Br.intro (fun hlt => ?_) (fun hge => ?_)
  · have hlt : i < l.length := by simpa using hlt
    obtain ⟨b, o, rfl⟩ := hth (by omega)
    refine ⟨by omega, ptrK_intro b o rfl fun w F cx => ⟨_, _, _, sl_val (hΦ _ _ cx.phi) hlt, fun _ => Br.intro (fun h => fun w F cx => ⟨?_, cx.left⟩) (fun h => ?_)⟩⟩
    · have h : r.length ≤ i := by simpa using h
      rw [hcm, cmpR_left hlt h]
    · have h : i < r.length := by simpa using h
      obtain ⟨b2, o2, rfl⟩ := hth2 (by omega)
      rw [cmpR_both hlt h] at hcm
      refine ⟨by omega, ptrK_intro b2 o2 rfl fun w F cx => ⟨_, _, _, sl_val (hΨ _ _ cx.phi) h, fun _ w F cx => ⟨by kernel_rfl, (cmpV_g l[i] r[i]).use cx fun w cx => ⟨_, rfl, R1, Φ1, inferInstance, cx, Br.intro (fun hn => fun w F cx => ⟨?_, cx.left⟩) (fun hn => ⟨by unfold I64; omega, R1, Φ1, l.length - (i + 1), inferInstance, fun w F c => c, ⟨i + 1, rfl, hlt, h, rfl, rfl, rfl, ?_⟩, by omega⟩)⟩⟩⟩⟩
      · have hn : cmpV l[i] r[i] ≠ 0 := by simpa using hn
        rw [hcm, if_pos hn]
      · have hn : ¬ cmpV l[i] r[i] ≠ 0 := by simpa using hn
        rw [hcm, if_neg hn]
  · have hge : i = l.length := Nat.le_antisymm hi (by simpa using hge)
    subst hge
    refine Br.intro (fun h => fun w F cx => ⟨?_, cx.left⟩) (fun h => fun w F cx => ⟨?_, cx.left⟩)
    · have h : l.length < r.length := by simpa using h
      rw [hcm, List.drop_length, List.drop_eq_getElem_cons h]; rfl
    · have h : ¬ l.length < r.length := by simpa using h
      rw [hcm, List.drop_length, List.drop_of_length_le (by omega)]; rfl

/-! ### deltas -/
theorem compareD_in {Φ : PW} [Stable Φ] (x y : DeltaD) (p q : Option Addr) (cap cap2 : Nat) (hΦ : ∀ M w, Φ M w → Sl M w p x.row) (hΨ : ∀ M w, Φ M w → Sl M w q y.row) (hlen : x.row.length ≤ 9223372036854775807) :
    GivesIn Φ Try.prog F.delta_compare #[x.v p cap, y.v q cap2] (.int .i64 (cmpD x y)) := by
  refine gives_in (Bdelta_compare_run x.time p x.row.length cap x.n y.time q y.row.length cap2 y.n) fun W R => ?_
  refine fun _ _ => ⟨R, Φ, inferInstance, fun _ _ c => c, fun w F c => (cmp_g _ _).use c fun w c => ⟨_, rfl, R, Φ, inferInstance, c, fun _ _ c => c, fun w F c => (CompareRows_in p q cap cap2 x.row y.row hΦ hΨ hlen).use c fun w c => ⟨_, rfl, R, Φ, inferInstance, c, fun k w F c => ?_⟩⟩⟩
  refine or_blk (cmpDL x y) 2 (fun u hu => ?_) (by simp) c fun w c => ⟨_, rfl, R, Φ, inferInstance, c, fun w F c => ⟨rfl, c.left⟩⟩
  simp only [cmpDL, List.mem_cons, List.not_mem_nil, or_false] at hu
  rcases hu with rfl | rfl
  · exact I64_bd (cmpI_cmp.bd _ _)
  · exact I64_bd (cmpR_cmp.bd _ _)

end Go.Proofs.Ytnapfhbibikbiaa
end

/-
  The walks of Clone; what right rows are.
-/
section
set_option linter.unusedVariables false
set_option linter.unusedSimpArgs false
namespace Go.Proofs.Ytnapfhbibikbiaa
open Go.Vc


theorem pin_delta {M : List Nat} {w : World} {b o : Nat} {cs : List (List Value)} {l : List DeltaD} (h : Pin b o cs l M w) {j : Nat} (hj : j < l.length) : ∃ p c, cs.getD j [] = l[j].cells p c ∧ l[j].row.length ≤ c ∧ c ≤ maxLen ∧ I64 l[j].time ∧ I64 l[j].n ∧ RowAt w b (o + j * 3) (l[j].cells p c) := by
  obtain ⟨_, h1, h2⟩ := h j hj
  obtain ⟨p, c, e, g1, g2, g3, g4, _⟩ := delta_cells h2
  exact ⟨p, c, e, g1, g2, g3, g4, by rw [e] at h1; exact h1⟩

theorem pin_row {M : List Nat} {w : World} {b o : Nat} {cs : List (List Value)} {l : List DeltaD} (h : Pin b o cs l M w) {j : Nat} (hj : j < l.length) {p : Option Addr} {c : Nat} (e : cs.getD j [] = l[j].cells p c) : Sl M w p l[j].row := by
  have := (h j hj).2.2
  rw [e] at this
  exact delta_row this

theorem pin_rowAt {M : List Nat} {w : World} {b o : Nat} {cs : List (List Value)} {l : List DeltaD} (h : Pin b o cs l M w) {j : Nat} (hj : j < l.length) {p : Option Addr} {c : Nat} (e : cs.getD j [] = l[j].cells p c) : RowAt w b (o + j * 3) (l[j].cells p c) := by
  have := (h j hj).2.1
  rw [e] at this
  exact this

/-- the pinned cells, for good -/
theorem in_cells {Φ : PW} {f : FuncId} {args : Array Value} {v : Value} {b o : Nat} {cs : List (List Value)} {l : List DeltaD} (hΦ : ∀ M w, Φ M w → Pin b o cs l M w)
    (h : (∀ j, (hj : j < l.length) → ∃ p c, cs.getD j [] = l[j].cells p c ∧ l[j].row.length ≤ c ∧ c ≤ maxLen ∧ I64 l[j].time ∧ I64 l[j].n) → GivesIn Φ Try.prog f args v) : GivesIn Φ Try.prog f args v :=
  ⟨fun W w S c => (h fun j hj => by obtain ⟨p, c, h1, h2, h3, h4, h5, _⟩ := pin_delta (hΦ _ _ c.phi) hj; exact ⟨p, c, h1, h2, h3, h4, h5⟩).go W w S c⟩

theorem len_max {n c : Nat} (h1 : n ≤ c) (h2 : c ≤ maxLen) : n ≤ 9223372036854775807 := Nat.le_trans h1 (Nat.le_trans h2 (by decide))

theorem val_one (M : List Nat) (w : World) (cs : List Value) (x : ValD) (h : Gv.rep M w cs x) : (cs.all fun u => oneC u) = true := by
  obtain ⟨_, _, rfl, ⟨rfl, _⟩, _, _, rfl, ⟨rfl, _⟩, rfl, _⟩ := h
  rfl

theorem CloneV_in {Φ : PW} [Stable Φ] (p : Option Addr) (cap : Nat) (l : List ValD) (hΦ : ∀ M w, Φ M w → Sl M w p l) (hlen : l.length < 100000000) :
    GivesNew Φ Try.prog F.slices_Clone_api_Value_api_Value #[.slice p l.length cap] l 48 := by
  refine .there (fun M w h => (hΦ M w h).there) fun hth => ?_
  refine gives_new (Bslices_Clone_api_Value_api_Value_run p l.length cap) fun W R => ?_
  refine Br.intro (fun hn => fun w F c => ?_) (fun hn => ?_)
  · have hl : l = [] := by
      cases l with
      | nil => rfl
      | cons => obtain ⟨b, o, e⟩ := hth (by simp); rw [e] at hn; cases hn
    subst hl
    exact ⟨none, 0, [], rfl, (c.left.buf0 48 3).add Elems.nil⟩
  · intro k w F c
    obtain ⟨p', cap', w', cs, hrun, c'⟩ := Ctx.cloned (P := Try.prog) (ts := 30) (ty := 30) (kb := #[false, false]) (bytes := 32) (c2 := cap) c (by kernel_rfl) val_one hΦ hlen (by omega)
    exact ⟨_, _, _, _, hrun, _, _, inferInstance, c', fun w F c => ⟨p', cap', cs, rfl, c.left⟩⟩

theorem CloneD_in {Φ : PW} [Stable Φ] (p : Option Addr) (cap : Nat) (l : List DeltaD) (hΦ : ∀ M w, Φ M w → Sl M w p l) (hlen : l.length < 100000000) :
    GivesNew Φ Try.prog F.slices_Clone_api_Delta_api_Delta #[.slice p l.length cap] l 38 := by
  refine .there (fun M w h => (hΦ M w h).there) fun hth => ?_
  refine gives_new (Bslices_Clone_api_Delta_api_Delta_run p l.length cap) fun W R => ?_
  refine Br.intro (fun hn => fun w F c => ?_) (fun hn => ?_)
  · have hl : l = [] := by
      cases l with
      | nil => rfl
      | cons => obtain ⟨b, o, e⟩ := hth (by simp); rw [e] at hn; cases hn
    subst hl
    exact ⟨none, 0, [], rfl, (c.left.buf0 38 3).add Elems.nil⟩
  · intro k w F c
    obtain ⟨p', cap', w', cs, hrun, c'⟩ := Ctx.cloned (P := Try.prog) (ts := 22) (ty := 22) (kb := #[false, false]) (bytes := 40) (c2 := cap) c (by kernel_rfl) delta_one hΦ hlen (by omega)
    exact ⟨_, _, _, _, hrun, _, _, inferInstance, c', fun w F c => ⟨p', cap', cs, rfl, c.left⟩⟩

/-! ### right rows -/
def rightV3 (x : ValD) : Bool := if x.kind = 0 then decide (x.text = ByteArray.mk #[]) else if x.kind = 1 then decide (x.num = 0) && decide ((x.text.size : Int) ≤ 200) else decide (x.kind = 2) && (decide (x.num = 0) || decide (x.num = 1)) && decide (x.text = ByteArray.mk #[])

theorem right3_g (x : ValD) : Gives Try.prog F.errataref03_Right #[x.v] (.bool (rightV3 x)) := by
  refine gives_of (Berrataref03_Right_run x.kind x.num x.text) fun W R Φ _ => fun _ => Br.intro (fun h => fun w G c => ⟨?_, c.left⟩) (fun h => Br.intro (fun h2 => fun w G c w G c => ⟨?_, c.left⟩) (fun h2 => fun w G c w G c => ⟨?_, c.left⟩))
  · unfold rightV3; rw [if_pos (of_decide_eq_true h)]
  · unfold rightV3; rw [if_neg (of_decide_eq_false h), if_pos (of_decide_eq_true h2)]
  · unfold rightV3; rw [if_neg (of_decide_eq_false h), if_neg (of_decide_eq_false h2)]

theorem All3_q {Φ : PW} [Stable Φ] (q : ValD → Bool) (hq : ∀ x, Gives Try.prog F.errataref03_Right #[x.v] (.bool (q x))) (p : Option Addr) (cap : Nat) (l : List ValD) (hΦ : ∀ M w, Φ M w → Sl M w p l) (hlen : l.length ≤ 9223372036854775807) : GivesIn Φ Try.prog F.errataref03_All #[.slice p l.length cap] (.bool (l.all q)) := by
  refine .there (fun M w h => (hΦ M w h).there) fun hth => ?_
  refine gives_in (Berrataref03_All_run p l.length cap) fun W R => ?_
  refine exI_mk (fun n R' Φ' k => ∃ i : Nat, n = i ∧ i ≤ l.length ∧ R' = R ∧ Φ' = Φ ∧ k = l.length - i ∧ l.all q = (l.drop i).all q) ⟨⟨R, Φ, _, inferInstance, fun w F c => c, 0, rfl, Nat.zero_le _, rfl, rfl, rfl, rfl⟩, ?_⟩
  rintro n R1 Φ1 k _ ⟨i, rfl, hi, rfl, rfl, rfl, hs⟩
  refine Br.intro (fun hlt => ?_) (fun hge => fun w F cx => ⟨?_, cx.left⟩)
  · have hlt : i < l.length := by simpa using hlt
    obtain ⟨b, o, rfl⟩ := hth (by omega)
    rw [List.drop_eq_getElem_cons hlt, List.all_cons] at hs
    refine ⟨by omega, ptrK_intro b o rfl fun w F cx => ⟨l[i].kind, l[i].num, l[i].text, by rw [Int.toNat_natCast]; exact sl_val (hΦ _ _ cx.phi) hlt, fun w F cx => (hq l[i]).use cx fun w cx => ⟨_, rfl, R1, Φ1, inferInstance, cx, Br.intro (fun h => fun w F cx => ⟨?_, cx.left⟩) (fun h => ⟨by unfold I64; omega, R1, Φ1, l.length - (i + 1), inferInstance, fun w F c => c, ⟨i + 1, rfl, hlt, rfl, rfl, rfl, ?_⟩, by omega⟩)⟩⟩⟩
    · rw [hs, show q l[i] = false by simpa using h, Bool.false_and]
    · rw [hs, show q l[i] = true by simpa using h, Bool.true_and]
  · have hge : i = l.length := Nat.le_antisymm hi (by simpa using hge)
    rw [hs, hge, List.drop_length]
    rfl

theorem All3_in {Φ : PW} [Stable Φ] (p : Option Addr) (cap : Nat) (l : List ValD) (hΦ : ∀ M w, Φ M w → Sl M w p l) (hlen : l.length ≤ 9223372036854775807) : GivesIn Φ Try.prog F.errataref03_All #[.slice p l.length cap] (.bool (l.all rightV3)) := All3_q rightV3 right3_g p cap l hΦ hlen

def rightR (l : List ValD) : Bool := decide ((l.length : Int) ≤ 12) && l.all rightV3

theorem RightRow3_in {Φ : PW} [Stable Φ] (p : Option Addr) (cap : Nat) (l : List ValD) (hΦ : ∀ M w, Φ M w → Sl M w p l) (hlen : l.length ≤ 9223372036854775807) : GivesIn Φ Try.prog F.errataref03_RightRow #[.slice p l.length cap] (.bool (rightR l)) := by
  have h1 := All3_in p cap l hΦ hlen
  unfold rightR
  generalize l.all rightV3 = c at h1
  refine gives_in (Berrataref03_RightRow_run p l.length cap) fun W R => Br.intro (fun h => fun w F cx => h1.use cx fun w cx => ⟨_, rfl, R, Φ, inferInstance, cx, fun w F cx => ⟨?_, cx.left⟩⟩) (fun h => fun w F cx => ⟨?_, cx.left⟩)
  · rw [h, Bool.true_and]
  · rw [h, Bool.false_and]

theorem Right42_pin {Φ : PW} [Stable Φ] (q : List ValD → Bool) (hq : ∀ (p : Option Addr) (cap : Nat) (l : List ValD), (∀ M w, Φ M w → Sl M w p l) → l.length ≤ 9223372036854775807 → GivesIn Φ Try.prog F.errataref03_RightRow #[.slice p l.length cap] (.bool (q l))) (p : Option Addr) (cap : Nat) (l : List DeltaD) (most : Int) (b o : Nat) (cs : List (List Value)) (hp : 0 < l.length → p = some ⟨b, o, none⟩) (hΦ : ∀ M w, Φ M w → Pin b o cs l M w) (hlen : l.length ≤ 9223372036854775807) :
    GivesIn Φ Try.prog F.errataref42_Right #[.slice p l.length cap, .int .i64 most] (.bool (decide ((l.length : Int) ≤ most) && l.all fun x => q x.row)) := by
  refine in_cells hΦ fun hcs => ?_
  refine gives_in (Berrataref42_Right_run p l.length cap most) fun W R => ?_
  refine exI_mk (fun n R' Φ' k => ∃ i : Nat, n = i ∧ i ≤ l.length ∧ R' = R ∧ Φ' = Φ ∧ k = l.length - i ∧ (l.all fun x => q x.row) = (l.drop i).all fun x => q x.row) ⟨⟨R, Φ, _, inferInstance, fun w F c => c, 0, rfl, Nat.zero_le _, rfl, rfl, rfl, rfl⟩, ?_⟩
  rintro n R1 Φ1 k _ ⟨i, rfl, hi, rfl, rfl, rfl, hs⟩
  refine fun w F cx => Br.intro (fun hlt => ?_) (fun hge => fun w F cx => ⟨?_, cx.left⟩)
  · simp only [Bool.and_eq_true, decide_eq_true_eq] at hlt
    have hlt : i < l.length := by omega
    obtain ⟨r, qc, he, g1, g2, _, _⟩ := hcs i hlt
    rw [List.drop_eq_getElem_cons hlt, List.all_cons] at hs
    refine ⟨by omega, ptrK_intro b o (hp (by omega)) fun w F cx => ⟨r, l[i].row.length, qc, ?_, fun w F cx => (hq r qc l[i].row (fun M w h => pin_row (hΦ M w h) hlt he) (len_max g1 g2)).use cx fun w cx => ⟨_, rfl, R1, Φ1, inferInstance, cx, Br.intro (fun h => fun w F cx => ⟨?_, cx.left⟩) (fun h => ⟨by unfold I64; omega, R1, Φ1, l.length - (i + 1), inferInstance, fun w F c => c, ⟨i + 1, rfl, hlt, rfl, rfl, rfl, ?_⟩, by omega⟩)⟩⟩⟩
    · rw [Int.toNat_natCast]
      have := pin_rowAt (hΦ _ _ cx.phi) hlt he 1 (by simp)
      simpa using this
    · rw [hs, show q l[i].row = false by simpa using h, Bool.false_and, Bool.and_false]
    · rw [hs, show q l[i].row = true by simpa using h, Bool.true_and]
  · simp only [Bool.and_eq_false_iff, decide_eq_false_iff_not] at hge
    by_cases hl : (l.length : Int) ≤ most
    · have hi : i = l.length := by omega
      rw [hs, hi, List.drop_length, decide_eq_true hl]
      rfl
    · rw [decide_eq_false hl, Bool.false_and]

theorem Right42_in {Φ : PW} [Stable Φ] (p : Option Addr) (cap : Nat) (l : List DeltaD) (most : Int) (hΦ : ∀ M w, Φ M w → Sl M w p l) (hlen : l.length ≤ 9223372036854775807) :
    GivesIn Φ Try.prog F.errataref42_Right #[.slice p l.length cap, .int .i64 most] (.bool (decide ((l.length : Int) ≤ most) && l.all fun x => rightR x.row)) :=
  .pinned hΦ fun b o cs hp => Right42_pin (Φ := fun M w => Φ M w ∧ Pin b o cs l M w) rightR (fun p cap l h hl => RightRow3_in p cap l h hl) p cap l most b o cs hp (fun _ _ h => h.2) hlen

theorem right42 {l : List DeltaD} {most : Int} (h : (decide ((l.length : Int) ≤ most) && l.all fun x => rightR x.row) = true) : (l.length : Int) ≤ most ∧ ∀ x ∈ l, x.row.length ≤ 12 := by
  rw [Bool.and_eq_true, decide_eq_true_eq, List.all_eq_true] at h
  refine ⟨h.1, fun x hx => ?_⟩
  have := h.2 x hx
  unfold rightR at this
  rw [Bool.and_eq_true, decide_eq_true_eq] at this
  omega

end Go.Proofs.Ytnapfhbibikbiaa
end

/-
  Consolidate, walked.
-/
section
set_option linter.unusedVariables false
set_option linter.unusedSimpArgs false
namespace Go.Proofs.Ytnapfhbibikbiaa
open Go.Vc


/-! ### one group, in plain Lean -/
theorem seg_sum {seg : List DeltaD} {k0 : Key} (h : ∀ x ∈ seg, x.key = k0) (k : Key) (hk : k ≠ k0) : sumK seg k = 0 := sumK_none fun x hx e => hk (by rw [← e, h x hx])

theorem Norm.snoc {c : List DeltaD} {x : DeltaD} (h : Norm c) (h1 : ∀ y ∈ c, cmpK y.key x.key < 0) (h2 : x.n ≠ 0) (h3 : I64 x.n) : Norm (c ++ [x]) := by
  refine ⟨List.pairwise_append.2 ⟨h.asc, List.pairwise_singleton _ _, fun y hy z hz => ?_⟩, fun y hy => ?_, fun y hy => ?_⟩
  · rw [List.mem_singleton.1 hz, cmpD_key]; exact h1 y hy
  · rcases List.mem_append.1 hy with hy | hy
    · exact h.nz y hy
    · rw [List.mem_singleton.1 hy]; exact h2
  · rcases List.mem_append.1 hy with hy | hy
    · exact h.i64 y hy
    · rw [List.mem_singleton.1 hy]; exact h3

/-- a group is put as one element, or left out -/
theorem find_group {A seg C : List DeltaD} {k0 : Key} {N : Int} (h : ∀ x ∈ seg, x.key = k0) (hN : N = findP seg k0) (k : Key) :
    (findP (A ++ (⟨k0.1, k0.2, N⟩ :: C)) k = findP (A ++ (seg ++ C)) k) ∧ (N = 0 → findP (A ++ C) k = findP (A ++ (seg ++ C)) k) := by
  have key : (((if k0 = k then N else 0) : Int) - sumK seg k) % 18446744073709551616 = 0 := by
    by_cases hk : k0 = k
    · subst hk
      rw [if_pos rfl, hN]
      exact w64_mod _
    · rw [if_neg hk, seg_sum h k (fun e => hk e.symm)]
      rfl
  have e1 : sumK (A ++ (⟨k0.1, k0.2, N⟩ :: C)) k = sumK A k + ((if k0 = k then N else 0) + sumK C k) := by rw [sumK_app]; rfl
  have e2 : sumK (A ++ (seg ++ C)) k = sumK A k + (sumK seg k + sumK C k) := by rw [sumK_app, sumK_app]
  refine ⟨?_, fun h0 => ?_⟩
  · unfold findP
    rw [e1, e2]
    exact w64_cong (by omega)
  · unfold findP
    rw [sumK_app, e2]
    refine w64_cong ?_
    rw [h0] at key
    have : ((if k0 = k then (0 : Int) else 0)) = 0 := by split <;> rfl
    omega

theorem find_snoc {seg : List DeltaD} {y : DeltaD} {k0 : Key} (hy : y.key = k0) : findP (seg ++ [y]) k0 = w64 (findP seg k0 + y.n) := by
  unfold findP
  rw [w64_l, sumK_app]
  simp only [sumK]
  rw [if_pos hy, Int.add_zero]

/-- where a slice of a sorted slice begins -/
theorem sub_at {g i k c : Nat} (h : k < c) : subPtr (some ⟨g, i * 3, none⟩) 3 k c = some ⟨g, (i + k) * 3, none⟩ := by
  unfold subPtr
  rw [if_neg (by omega), Option.map_some]
  congr 1
  unfold Addr.add
  split
  · rw [show k = 0 by omega, Nat.add_zero]
  · show Addr.mk g (i * 3 + k * 3) none = _
    rw [Nat.add_mul]

/-- what the outer loop knows -/
structure COuter (l : List DeltaD) (es outs : List DE) (i : Nat) : Prop where
  le : i ≤ es.length
  norm : Norm (outs.map DE.d)
  lt : ∀ x ∈ outs, ∀ y ∈ es.drop i, cmpK x.d.key y.d.key < 0
  find : ∀ k, findP (outs.map DE.d ++ (es.drop i).map DE.d) k = findP l k
  few : outs.length ≤ i

theorem COuter.step {l : List DeltaD} {es outs : List DE} {i : Nat} (h : COuter l es outs i) {X : DE} (hX : X ∈ es.drop i) {j : Nat} (hij : i + j ≤ es.length) (hj : 1 ≤ j) (hk : ∀ y ∈ (es.drop i).take j, y.d.key = X.d.key) {N : Int} (hN : N = findP (((es.drop i).take j).map DE.d) X.d.key)
    (hgt : ∀ y ∈ es.drop (i + j), cmpK X.d.key y.d.key < 0) : (N = 0 → COuter l es outs (i + j)) ∧ (N ≠ 0 → ∀ (p : Option Addr) (c : Nat), COuter l es (outs ++ [⟨⟨X.d.time, X.d.row, N⟩, p, c⟩]) (i + j)) := by
  have hdr : es.drop i = (es.drop i).take j ++ es.drop (i + j) := by rw [← List.drop_drop, List.take_append_drop]
  have hkm : ∀ x ∈ ((es.drop i).take j).map DE.d, x.key = X.d.key := fun x hx => by
    obtain ⟨y, hy, rfl⟩ := List.mem_map.1 hx
    exact hk y hy
  have hsub : ∀ y ∈ es.drop (i + j), y ∈ es.drop i := fun y hy => by rw [hdr]; exact List.mem_append_right _ hy
  have hf : ∀ k, findP (outs.map DE.d ++ (((es.drop i).take j).map DE.d ++ (es.drop (i + j)).map DE.d)) k = findP l k := fun k => by
    rw [← List.map_append, ← hdr]; exact h.find k
  refine ⟨fun h0 => ⟨hij, h.norm, fun x hx y hy => h.lt x hx y (hsub y hy), fun k => ?_, by have := h.few; omega⟩, fun h0 p c => ⟨hij, ?_, fun x hx y hy => ?_, fun k => ?_, by rw [List.length_append]; have := h.few; simp; omega⟩⟩
  · rw [← hf k]
    exact (find_group (A := outs.map DE.d) (C := (es.drop (i + j)).map DE.d) hkm hN k).2 h0
  · rw [List.map_append]
    refine Norm.snoc h.norm (fun y hy => ?_) h0 (by rw [hN]; exact w64_in _)
    obtain ⟨z, hz, rfl⟩ := List.mem_map.1 hy
    exact h.lt z hz X hX
  · rcases List.mem_append.1 hx with hx | hx
    · exact h.lt x hx y (hsub y hy)
    · rw [List.mem_singleton.1 hx]; exact hgt y hy
  · rw [← hf k, List.map_append, List.append_assoc]
    exact (find_group (A := outs.map DE.d) (C := (es.drop (i + j)).map DE.d) hkm hN k).1

theorem cmpFn_delta {Φ : PW} [Stable Φ] {es : List DE} (hrow : ∀ x ∈ es, x.d.row.length ≤ 1000000) : CmpFn (fun M w => Φ M w ∧ EPhi es M w) F.delta_compare #[] (fun x => x ∈ es) :=
  ⟨by kernel_rfl, fun x y hx hy => compareD_in x.d y.d x.p y.p x.c y.c (fun M w h => delta_row (h.2 x hx)) (fun M w h => delta_row (h.2 y hy)) (by have := hrow x hx; omega)⟩

theorem cell3 {w : World} {g o : Nat} {X : DE} (h : RowAt w g o X.cells) : w.cell? ⟨g, o + 2, none⟩ = some (.int .i64 X.d.n) := by
  have := h 2 (by simp)
  simpa using this

set_option maxHeartbeats 4000000 in
theorem Consolidate_new {Φ : PW} [Stable Φ] (p : Option Addr) (cap : Nat) (l : List DeltaD) (hΦ : ∀ M w, Φ M w → Sl M w p l) (hlen : l.length ≤ 1000000) (hrow : ∀ x ∈ l, x.row.length ≤ 1000000) : GivesNew Φ Try.prog F.delta_Consolidate #[.slice p l.length cap] (consP l) 38 := by
  refine gives_new (Bdelta_Consolidate_run p l.length cap) fun W R => ?_
  refine fun w G cx => (CloneD_in p cap l hΦ (by omega)).use cx fun p1 cap1 cs w cx => ?_
  obtain ⟨es0, rfl, hes⟩ := elems_ex cx.phi.2
  have hl : l.length = es0.length := by rw [← hes, List.length_map]
  have cx1 : Ctx W w (bufE p1 cap1 es0 :: (R ++ G)) (fun M w => Φ M w ∧ EPhi es0 M w) := by
    have h1 := cx.weak (Ψ := fun M w => Φ M w ∧ EPhi es0 M w) fun M w h => ⟨h.1, elems_e (by rw [hes]; exact h.2)⟩
    rw [hl] at h1
    exact h1
  have hrow0 : ∀ x ∈ es0, x.d.row.length ≤ 1000000 := fun x hx => hrow x.d (by rw [← hes]; exact List.mem_map_of_mem hx)
  have hf := cmpFn_delta (Φ := Φ) hrow0
  clear cx
  refine ⟨p1, es0.length, cap1, by rw [hl], bufE p1 cap1 es0 :: R, _, inferInstance, cx1, fun w G cx => ?_⟩
  refine SortStable_use (S := R ++ G) hf es0 (fun e h => h) cx (by omega) fun es w hp ha cx => ?_
  have hn : es0.length = es.length := hp.length_eq.symm
  have hi0 : ∀ x ∈ es, EPhi es0 = EPhi es0 := fun _ _ => rfl
  have cx2 : Ctx W w (bufE p1 cap1 es :: (R ++ G)) (fun M w => Φ M w ∧ EPhi es M w) := cx.weak fun M w h => ⟨h.1, fun x hx => h.2 x (hp.mem_iff.1 hx)⟩
  have hfind : ∀ k, findP (es.map DE.d) k = findP l k := fun k => by rw [← hes]; exact findP_perm (hp.map DE.d) k
  have hrowE : ∀ x ∈ es, x.d.row.length ≤ 1000000 := fun x hx => hrow0 x (hp.mem_iff.1 hx)
  have hcmp := (cmpFn_delta (Φ := Φ) hrowE).2
  have hpg : 0 < es.length → ∃ g, p1 = some ⟨g, 0, none⟩ := fun h => e_ptr cx2 h
  have hcap : es.length ≤ cap1 := (cx2.bufLen 0 rfl).2.1
  rw [hn]
  refine ⟨rfl, bufE p1 cap1 es :: R, _, inferInstance, cx2, ?_⟩
  clear hf hrow0 hi0 cx cx1 cx2 hrow hp hes
  refine exI_mk (fun sp sn sc op on oc R' Φ' k => ∃ (i : Nat) (outs : List DE), COuter l es outs i ∧ sn = es.length - i ∧ sn ≤ sc ∧ (∀ g, p1 = some ⟨g, 0, none⟩ → i < es.length → sp = some ⟨g, i * 3, none⟩) ∧ on = outs.length ∧ R' = bufE op oc outs :: bufE p1 cap1 es :: R ∧ Φ' = (fun M w => (Φ M w ∧ EPhi es M w) ∧ EPhi outs M w) ∧ k = es.length - i)
    ⟨⟨bufE none 0 [] :: bufE p1 cap1 es :: R, fun M w => (Φ M w ∧ EPhi es M w) ∧ EPhi ([] : List DE) M w, _, inferInstance, fun w G cx => ((cx.weak fun M w h => ⟨h, fun x hx => by cases hx⟩).nobuf 38 3), 0, [], ⟨Nat.zero_le _, Norm.nil, by simp, fun k => hfind k, Nat.le_refl _⟩, by omega, by omega, fun g hg _ => by rw [hg, Nat.zero_mul], rfl, rfl, rfl, rfl⟩, ?_⟩
  rintro sp sn sc op on oc R1 Φ1 k _ ⟨i, outs, hco, rfl, hsc, hsp, rfl, rfl, rfl, rfl⟩
  have hile := hco.le
  refine Br.intro (fun hlt => ?_) (fun hge => fun w G cx => ?_)
  · have hlt := of_decide_eq_true hlt
    have hlt : i < es.length := by omega
    obtain ⟨g, rfl⟩ := hpg (by omega)
    have hsp := hsp g rfl hlt
    subst hsp
    have hstP : Stable (fun M w => (Φ M w ∧ EPhi es M w) ∧ EPhi outs M w) := inferInstance
    obtain ⟨X, hX⟩ : ∃ X, es[i]? = some X := ⟨_, List.getElem?_eq_getElem hlt⟩
    have hXm : X ∈ es := List.mem_of_getElem? hX
    have hXd : X ∈ es.drop i := by
      rw [List.drop_eq_getElem_cons hlt]
      rw [List.getElem?_eq_getElem hlt] at hX
      rw [Option.some.inj hX]; simp
    have hdX : es.drop i = X :: es.drop (i + 1) := by
      rw [List.drop_eq_getElem_cons hlt]
      rw [List.getElem?_eq_getElem hlt] at hX
      rw [Option.some.inj hX]
    refine ⟨by omega, ptrK_intro g (i * 3) rfl fun w G cx => ⟨X.d.time, X.p, X.d.row.length, X.c, X.d.n, e_row cx.swap hX, fun _ => ?_⟩⟩
    obtain ⟨hIt, hIn⟩ : I64 X.d.time ∧ I64 X.d.n := by
      obtain ⟨_, _, _, _, _, h1, h2, _⟩ := delta_cells (cx.phi.1.2 X hXm)
      exact ⟨h1, h2⟩
    clear cx
    refine exI_mk (fun kI tm rp rn rc nn R' Φ' k => ∃ j : Nat, kI = j ∧ 1 ≤ j ∧ i + j ≤ es.length ∧ tm = X.d.time ∧ rp = X.p ∧ rn = X.d.row.length ∧ rc = X.c ∧ nn = findP (((es.drop i).take j).map DE.d) X.d.key ∧ (∀ y ∈ (es.drop i).take j, y.d.key = X.d.key) ∧ R' = bufE op oc outs :: bufE (some ⟨g, 0, none⟩) cap1 es :: R ∧ Φ' = (fun M w => (Φ M w ∧ EPhi es M w) ∧ EPhi outs M w) ∧ k = es.length - i - j)
      ⟨⟨_, _, _, hstP, fun w G cx => cx, 1, rfl, Nat.le_refl _, hlt, rfl, rfl, rfl, rfl, ?_, ?_, rfl, rfl, rfl⟩, ?_⟩
    · rw [hdX]
      show X.d.n = w64 ((if X.d.key = X.d.key then X.d.n else 0) + 0)
      rw [if_pos rfl, Int.add_zero, w64_id hIn]
    · rw [hdX]
      intro y hy
      simp at hy
      rw [hy]
    rintro kI _ _ _ _ nn R2 Φ2 k _ ⟨j, rfl, hj1, hj2, rfl, rfl, rfl, rfl, hnn, hkeys, rfl, rfl, rfl⟩
    have hXlen : X.d.row.length ≤ 1000000 := hrowE X hXm
    refine ⟨_, _, hstP, fun w G cx => cx, Br.intro (fun hlt2 => ?_) (fun hge2 => ?_)⟩
    case' refine_2 =>
      have hgt : ∀ y ∈ es.drop (i + j), cmpK X.d.key y.d.key < 0 := by
        have hge2 := of_decide_eq_false hge2
        rw [List.drop_eq_nil_of_le (by omega)]
        intro y hy; cases hy
    case' refine_1 =>
      have hlt2 := of_decide_eq_true hlt2
      have hij : i + j < es.length := by omega
      obtain ⟨Y, hY⟩ : ∃ Y, es[i + j]? = some Y := ⟨_, List.getElem?_eq_getElem hij⟩
      have hYm : Y ∈ es := List.mem_of_getElem? hY
      have hcall : GivesIn (fun M w => (Φ M w ∧ EPhi es M w) ∧ EPhi outs M w) Try.prog F.delta_compare #[.agg #[.int .i64 X.d.time, .slice X.p X.d.row.length X.c, .int .i64 nn], Y.v] (.int .i64 (cmpD ⟨X.d.time, X.d.row, nn⟩ Y.d)) :=
        compareD_in ⟨X.d.time, X.d.row, nn⟩ Y.d X.p Y.p X.c Y.c (fun M w h => show Sl M w X.p X.d.row from delta_row (h.1.2 X hXm)) (fun M w h => delta_row (h.1.2 Y hYm)) (by show X.d.row.length ≤ _; omega)
      have hYr : ∀ {w : World} {G : List Own}, Ctx W w (bufE op oc outs :: bufE (some ⟨g, 0, none⟩) cap1 es :: R ++ G) (fun M w => (Φ M w ∧ EPhi es M w) ∧ EPhi outs M w) → RowAt w g (i * 3 + (j : Int).toNat * 3) Y.cells := fun cx => by
        rw [Int.toNat_natCast, ← Nat.add_mul]; exact e_row cx.swap hY
      refine ⟨by omega, ptrK_intro g (i * 3) rfl ⟨Y.d.time, Y.p, Y.d.row.length, Y.c, Y.d.n, fun w G cx => ⟨_, Y.p, _, Y.c, _, hYr cx, rfl⟩, fun w G cx => hcall.use cx fun w cx => ⟨_, rfl, bufE op oc outs :: bufE (some ⟨g, 0, none⟩) cap1 es :: R, _, hstP, cx, Br.intro (fun hc => ?_) (fun hc => ?_)⟩⟩⟩
    case' refine_1.refine_1 =>
      have hc := of_decide_eq_true hc
      rw [cmpD_key] at hc
      have hk := (cmpK_cmp.eq _ _).1 hc
      have hk' : Y.d.key = X.d.key := hk.symm
      have htk : (es.drop i).take (j + 1) = (es.drop i).take j ++ [Y] := by
        have hlt3 : j < (es.drop i).length := by rw [List.length_drop]; omega
        rw [List.take_succ_eq_append_getElem hlt3]
        congr 2
        rw [List.getElem_drop]
        rw [List.getElem?_eq_getElem hij] at hY
        exact Option.some.inj hY
      refine ⟨by omega, ptrK_intro g (i * 3) rfl fun w G cx => ⟨Y.d.n, cell3 (hYr cx), by unfold I64; omega, _, _, es.length - i - (j + 1), hstP, fun w G cx => cx, ⟨j + 1, by omega, by omega, by omega, rfl, rfl, rfl, rfl, ?_, ?_, rfl, rfl, rfl⟩, by omega⟩⟩
      · rw [htk, List.map_append, hnn]
        exact (find_snoc hk').symm
      · rw [htk]
        intro y hy
        rcases List.mem_append.1 hy with hy | hy
        · exact hkeys y hy
        · rw [List.mem_singleton.1 hy]; exact hk'
    case' refine_1.refine_2 =>
      have hgt : ∀ y ∈ es.drop (i + j), cmpK X.d.key y.d.key < 0 := by
        have hc := of_decide_eq_false hc
        rw [cmpD_key] at hc
        have hXi : es[i] = X := by rw [List.getElem?_eq_getElem hlt] at hX; exact Option.some.inj hX
        have hYi : es[i + j] = Y := by rw [List.getElem?_eq_getElem hij] at hY; exact Option.some.inj hY
        have h1 : leE es[i] es[i + j] := asc_le ordE ha (by omega) hij
        rw [hXi, hYi] at h1
        have h1 : cmpK X.d.key Y.d.key < 0 := by
          have h2 : cmpK X.d.key Y.d.key ≤ 0 := by rw [← cmpD_key]; exact h1
          have h3 : cmpK X.d.key Y.d.key ≠ 0 := hc
          omega
        intro y hy
        obtain ⟨q, hq, rfl⟩ := List.getElem_of_mem hy
        rw [List.length_drop] at hq
        rw [List.getElem_drop]
        have h2 : leE es[i + j] es[i + j + q] := asc_le ordE ha (by omega) (by omega)
        rw [hYi] at h2
        have h2 : cmpK Y.d.key es[i + j + q].d.key ≤ 0 := by rw [← cmpD_key]; exact h2
        rcases Int.lt_or_eq_of_le h2 with h3 | h3
        · exact cmpK_cmp.trans _ _ _ h1 h3
        · rw [← (cmpK_cmp.eq _ _).1 h3]; exact h1
      clear hc hcall hYr
    all_goals
      obtain ⟨hz, hnz⟩ := hco.step hXd (by omega) hj1 hkeys hnn hgt
      refine Br.intro (fun h0 => fun w G cx => ?_) (fun h0 => ⟨by omega, _, _, es.length - (i + j), hstP, fun w G cx => cx, ⟨i + j, outs, hz (by have := of_decide_eq_false h0; omega), by rw [Int.toNat_natCast]; omega, by rw [Int.toNat_natCast]; omega, fun g' hg' h => by cases hg'; rw [Int.toNat_natCast]; exact sub_at (by omega), rfl, rfl, rfl, rfl⟩, by omega⟩)
      have h0 : nn ≠ 0 := of_decide_eq_true h0
      have hco2 := hnz h0
      have hfew := hco.few
      refine (CloneV_in (Φ := fun M w => (Φ M w ∧ EPhi es M w) ∧ EPhi outs M w) X.p X.c X.d.row (fun M w h => delta_row (h.1.2 X hXm)) (by omega)).use cx fun q qc vc w cx => ?_
      obtain ⟨_, hq1, hq2⟩ := cx.bufLen 0 rfl
      obtain ⟨cx3, hs, _⟩ := Ctx.freeze (α := ValD) cx.fst cx.phi.2
      have hst2 : Stable (fun M w => (fun M w => (Φ M w ∧ EPhi es M w) ∧ EPhi outs M w) M w ∧ Sl M w q X.d.row) := inferInstance
      refine ⟨q, _, qc, rfl, bufE op oc outs :: bufE (some ⟨g, 0, none⟩) cap1 es :: R, _, hst2, cx3.add hs, fun k w G cx => ?_⟩
      obtain ⟨p', cap', w', hrun, _, cx'⟩ := Ctx.app1 (P := Try.prog) (ts := 22) (ty := 22) (kb := #[false, false]) (size := 3) (bytes := 40) cx (by kernel_rfl) (by omega) rfl rfl (by omega) (by omega)
      have hcells : cellsE outs ++ [.int .i64 X.d.time, .slice q X.d.row.length qc, .int .i64 nn] = cellsE (outs ++ [⟨⟨X.d.time, X.d.row, nn⟩, q, qc⟩]) := by rw [cellsE_app]; rfl
      have hlen1 : outs.length + 1 = (outs ++ [(⟨⟨X.d.time, X.d.row, nn⟩, q, qc⟩ : DE)]).length := by simp
      have hnI : I64 nn := by rw [hnn]; exact w64_in _
      have hst3 : Stable (fun M w => (Φ M w ∧ EPhi es M w) ∧ EPhi (outs ++ [(⟨⟨X.d.time, X.d.row, nn⟩, q, qc⟩ : DE)]) M w) := inferInstance
      rw [hcells, hlen1] at cx'
      refine ⟨p', _, cap', w', hrun, bufE p' cap' (outs ++ [(⟨⟨X.d.time, X.d.row, nn⟩, q, qc⟩ : DE)]) :: bufE (some ⟨g, 0, none⟩) cap1 es :: R, _, hst3, cx'.weak fun M w h => ⟨h.1.1, fun x hx => ?_⟩, by omega, _, _, es.length - (i + j), hst3, fun w G cx => cx, ⟨i + j, _, hco2 q qc, by rw [Int.toNat_natCast]; omega, by rw [Int.toNat_natCast]; omega, fun g' hg' h => by cases hg'; rw [Int.toNat_natCast]; exact sub_at (by omega), hlen1, rfl, rfl, rfl⟩, by omega⟩
      rcases List.mem_append.1 hx with hx | hx
      · exact h.1.2 x hx
      · rw [List.mem_singleton.1 hx]
        exact rep_delta hq1 hq2 hIt hnI h.2
  · have hge := of_decide_eq_false hge
    have hi : i = es.length := by omega
    have hnorm := hco.norm
    have hfi := hco.find
    rw [hi, List.drop_length] at hfi
    have hc : consP l = outs.map DE.d := consP_is hnorm fun k => by have := hfi k; rw [List.map_nil, List.append_nil] at this; exact this
    have hol : (consP l).length = outs.length := by rw [hc, List.length_map]
    refine ⟨op, oc, cellsE outs, by rw [hol], ?_⟩
    have hstP : Stable (fun M w => (Φ M w ∧ EPhi es M w) ∧ EPhi outs M w) := inferInstance
    have cx3 : Ctx W w (bufE op oc outs :: R) (fun M w => (Φ M w ∧ EPhi es M w) ∧ EPhi outs M w) := (cx.left.swap).drop1
    rw [hol]
    exact cx3.weak fun M w h => ⟨h.1.1, by rw [hc]; exact e_elems h.2⟩

end Go.Proofs.Ytnapfhbibikbiaa
end

/-
  Sub, Diff, Same, walked.
-/
section
set_option linter.unusedVariables false
set_option linter.unusedSimpArgs false
namespace Go.Proofs.Ytnapfhbibikbiaa
open Go.Vc


/-- a consolidated list that nobody writes -/
theorem new_sl {Φ : PW} [Stable Φ] {P : Program} {f : FuncId} {args : Array Value} {l : List DeltaD} (h : GivesNew Φ P f args l 38) : GivesSl Φ P f args l id :=
  ⟨fun W w S c => (h.go W w S c).mono fun e w' ⟨p, cap, cs, he, cx⟩ => by
    obtain ⟨_, h1, h2⟩ := cx.bufLen 0 rfl
    obtain ⟨cx3, hs, _⟩ := Ctx.freeze (α := DeltaD) cx.fst cx.phi.2
    exact ⟨p, cap, he, h1, h2, cx3.add hs⟩⟩

theorem Consolidate_sl {Φ : PW} [Stable Φ] (p : Option Addr) (cap : Nat) (l : List DeltaD) (hΦ : ∀ M w, Φ M w → Sl M w p l) (hlen : l.length ≤ 1000000) (hrow : ∀ x ∈ l, x.row.length ≤ 1000000) : GivesSl Φ Try.prog F.delta_Consolidate #[.slice p l.length cap] (consP l) id :=
  new_sl (Consolidate_new p cap l hΦ hlen hrow)

/-- rows of what is consolidated are rows of what there was -/
theorem insD_row (x : DeltaD) {P : List ValD → Prop} (hx : P x.row) : ∀ {c : List DeltaD}, (∀ y ∈ c, P y.row) → ∀ z ∈ insD x c, P z.row
  | [], _, z, hz => by
    unfold insD at hz
    split at hz
    · cases hz
    · rw [List.mem_singleton.1 hz]; exact hx
  | y :: t, h, z, hz => by
    have hy := h y (by simp)
    have ht : ∀ q ∈ t, P q.row := fun q hq => h q (by simp [hq])
    unfold insD at hz
    split at hz
    · split at hz
      · exact h z hz
      · rcases List.mem_cons.1 hz with rfl | hz
        · exact hx
        · exact h z hz
    · split at hz
      · split at hz
        · exact ht z hz
        · rcases List.mem_cons.1 hz with rfl | hz
          · exact hy
          · exact ht z hz
      · rcases List.mem_cons.1 hz with rfl | hz
        · exact hy
        · exact insD_row x hx ht z hz
theorem consP_row {P : List ValD → Prop} : ∀ {l : List DeltaD}, (∀ x ∈ l, P x.row) → ∀ z ∈ consP l, P z.row
  | [], _, z, hz => by cases hz
  | x :: l, h, z, hz => insD_row x (h x (by simp)) (consP_row fun y hy => h y (by simp [hy])) z hz

/-! ### Sub -/
def negD (x : DeltaD) : DeltaD := ⟨x.time, x.row, w64 (0 - x.n)⟩
def subP (a b : List DeltaD) : List DeltaD := consP (a ++ b.map negD)

set_option maxHeartbeats 1000000 in
theorem Sub_pin {Φ : PW} [Stable Φ] (p : Option Addr) (cap : Nat) (a : List DeltaD) (q : Option Addr) (cap2 : Nat) (b : List DeltaD) (g o : Nat) (cs : List (List Value)) (hq : 0 < b.length → q = some ⟨g, o, none⟩) (hΦ : ∀ M w, Φ M w → Sl M w p a) (hΨ : ∀ M w, Φ M w → Pin g o cs b M w)
    (ha : a.length ≤ 400000) (hb : b.length ≤ 400000) (hra : ∀ x ∈ a, x.row.length ≤ 1000000) (hrb : ∀ x ∈ b, x.row.length ≤ 1000000) : GivesSl Φ Try.prog F.delta_Sub #[.slice p a.length cap, .slice q b.length cap2] (subP a b) id := by
  refine ⟨fun W0 w0 S0 c0 => ?_⟩
  have hcs : ∀ j, (hj : j < b.length) → ∃ p c, cs.getD j [] = b[j].cells p c ∧ b[j].row.length ≤ c ∧ c ≤ maxLen ∧ I64 b[j].time ∧ I64 b[j].n := fun j hj => by
    obtain ⟨p, c, h1, h2, h3, h4, h5, _⟩ := pin_delta (hΨ _ _ c0.phi) hj
    exact ⟨p, c, h1, h2, h3, h4, h5⟩
  refine GivesSl.go (gives_sl (Bdelta_Sub_run p a.length cap q b.length cap2) fun W R => ?_) W0 w0 S0 c0
  clear c0
  refine fun w G cx => (CloneD_in p cap a hΦ (by omega)).use cx fun p1 cap1 ds w cx => ⟨p1, _, cap1, rfl, .buf p1 a.length cap1 ds 38 3 :: R, _, inferInstance, cx, ?_⟩
  refine exI_mk (fun sp sn sc iI R' Φ' k => ∃ (i : Nat) (ds : List Value), iI = i ∧ i ≤ b.length ∧ sn = (a ++ (b.take i).map negD).length ∧ R' = .buf sp sn sc ds 38 3 :: R ∧ Φ' = (fun M w => Φ M w ∧ Elems M w ds (a ++ (b.take i).map negD)) ∧ k = b.length - i)
    ⟨⟨.buf p1 a.length cap1 ds 38 3 :: R, fun M w => Φ M w ∧ Elems M w ds (a ++ (b.take 0).map negD), _, inferInstance, fun w G cx => cx.weak fun M w h => ⟨h.1, by simpa using h.2⟩, 0, ds, rfl, Nat.zero_le _, by simp, rfl, rfl, rfl⟩, ?_⟩
  clear cx
  rintro sp _ sc iI R1 Φ1 k _ ⟨i, ds, rfl, hi, rfl, rfl, rfl, rfl⟩
  have hln : (a ++ (b.take i).map negD).length = a.length + i := by simp; omega
  have hst : Stable (fun M w => Φ M w ∧ Elems M w ds (a ++ (b.take i).map negD)) := inferInstance
  refine Br.intro (fun hlt => ?_) (fun hge => fun w G cx => ?_)
  · have hlt := of_decide_eq_true hlt
    have hlt : i < b.length := by omega
    obtain ⟨r, rc, he, h1, h2, h3, h4⟩ := hcs i hlt
    refine ⟨by omega, ptrK_intro g o (hq (by omega)) fun w G cx => ⟨b[i].time, r, b[i].row.length, rc, b[i].n, by rw [Int.toNat_natCast]; exact pin_rowAt (hΨ _ _ cx.phi.1) hlt he, fun _ k w G cx => ?_⟩⟩
    obtain ⟨p', cap', w', hrun, _, cx'⟩ := Ctx.app1 (P := Try.prog) (ts := 22) (ty := 22) (kb := #[false, false]) (size := 3) (bytes := 40) cx (by kernel_rfl) (by omega) rfl rfl (by omega) (by omega)
    have htk : a ++ (b.take (i + 1)).map negD = (a ++ (b.take i).map negD) ++ [negD b[i]] := by rw [List.take_succ_eq_append_getElem hlt, List.map_append, ← List.append_assoc]; rfl
    have hln2 : (a ++ (b.take i).map negD).length + 1 = (a ++ (b.take (i + 1)).map negD).length := by rw [htk, List.length_append (bs := [negD b[i]])]; rfl
    rw [hln2] at cx' hrun
    have hst3 : Stable (fun M w => Φ M w ∧ Elems M w (ds ++ (negD b[i]).cells r rc) (a ++ (b.take (i + 1)).map negD)) := inferInstance
    refine ⟨p', _, cap', w', hrun, .buf p' (a ++ (b.take (i + 1)).map negD).length cap' (ds ++ (negD b[i]).cells r rc) 38 3 :: R, _, hst3, cx'.weak fun M w h => ⟨h.1, ?_⟩, by unfold I64; omega, _, _, b.length - (i + 1), hst3, fun w G cx => cx, ⟨i + 1, _, by omega, hlt, rfl, rfl, rfl, rfl⟩, by omega⟩
    rw [htk]
    exact h.2.snoc (rep_delta (x := negD b[i]) h1 h2 h3 (w64_in _) (show Sl M w r b[i].row from pin_row (hΨ M w h.1) hlt he))
  · have hge := of_decide_eq_false hge
    have hi : i = b.length := by omega
    subst hi
    have hall : a ++ (b.take b.length).map negD = a ++ b.map negD := by rw [List.take_length]
    rw [hall] at cx ⊢
    obtain ⟨cx3, hs, _⟩ := Ctx.freeze (α := DeltaD) cx.fst cx.phi.2
    have hst4 : Stable (fun M w => Φ M w ∧ Sl M w sp (a ++ b.map negD)) := inferInstance
    refine (Consolidate_sl (Φ := fun M w => Φ M w ∧ Sl M w sp (a ++ b.map negD)) sp sc (a ++ b.map negD) (fun M w h => h.2) (by simp; omega) (fun x hx => ?_)).use (cx3.add hs) fun p3 c3 w h1 h2 cx => ⟨p3, _, c3, rfl, R, fun M w => Φ M w ∧ Sl M w p3 (subP a b), inferInstance, cx.weak fun M w h => ⟨h.1.1, h.2⟩, fun w G cx => ⟨p3, c3, rfl, h1, h2, cx.left⟩⟩
    rcases List.mem_append.1 hx with hx | hx
    · exact hra x hx
    · obtain ⟨y, hy, rfl⟩ := List.mem_map.1 hx
      exact hrb y hy

theorem Sub_sl {Φ : PW} [Stable Φ] (p : Option Addr) (cap : Nat) (a : List DeltaD) (q : Option Addr) (cap2 : Nat) (b : List DeltaD) (hΦ : ∀ M w, Φ M w → Sl M w p a) (hΨ : ∀ M w, Φ M w → Sl M w q b)
    (ha : a.length ≤ 400000) (hb : b.length ≤ 400000) (hra : ∀ x ∈ a, x.row.length ≤ 1000000) (hrb : ∀ x ∈ b, x.row.length ≤ 1000000) : GivesSl Φ Try.prog F.delta_Sub #[.slice p a.length cap, .slice q b.length cap2] (subP a b) id :=
  .pinned hΨ fun g o cs hq => Sub_pin (Φ := fun M w => Φ M w ∧ Pin g o cs b M w) p cap a q cap2 b g o cs hq (fun M w h => hΦ M w h.1) (fun M w h => h.2) ha hb hra hrb

theorem Diff_sl {Φ : PW} [Stable Φ] (p : Option Addr) (cap : Nat) (a : List DeltaD) (q : Option Addr) (cap2 : Nat) (b : List DeltaD) (hΦ : ∀ M w, Φ M w → Sl M w p a) (hΨ : ∀ M w, Φ M w → Sl M w q b)
    (ha : a.length ≤ 400000) (hb : b.length ≤ 400000) (hra : ∀ x ∈ a, x.row.length ≤ 1000000) (hrb : ∀ x ∈ b, x.row.length ≤ 1000000) : GivesSl Φ Try.prog F.difference_Diff #[.slice p a.length cap, .slice q b.length cap2] (subP b a) id := by
  refine gives_sl (Bdifference_Diff_run p a.length cap q b.length cap2) fun W R => ?_
  exact fun w G cx => (Sub_sl q cap2 b p cap a hΨ hΦ hb ha hrb hra).use cx fun p3 c3 w h1 h2 cx => ⟨p3, _, c3, rfl, R, _, inferInstance, cx, fun w G cx => ⟨p3, c3, rfl, h1, h2, cx.left⟩⟩

/-! ### Same -/
theorem delta_iff {x y : DeltaD} : x = y ↔ (x.time = y.time ∧ (x.row = y.row ∧ x.n = y.n)) := by cases x; cases y; simp
instance : DecidableEq DeltaD := fun _ _ => decidable_of_iff _ delta_iff.symm
def sameD (x y : DeltaD) : Bool := decide (cmpD x y = 0) && decide (x.n = y.n)
theorem sameD_eq {x y : DeltaD} : sameD x y = true ↔ x = y := by
  unfold sameD
  rw [Bool.and_eq_true, decide_eq_true_eq, decide_eq_true_eq, cmpD_key]
  exact ⟨fun h => delta_ext ((cmpK_cmp.eq _ _).1 h.1) h.2, fun h => by subst h; exact ⟨cmpK_cmp.refl _, rfl⟩⟩

theorem Same1_in {Φ : PW} [Stable Φ] (x y : DeltaD) (p q : Option Addr) (cap cap2 : Nat) (hΦ : ∀ M w, Φ M w → Sl M w p x.row) (hΨ : ∀ M w, Φ M w → Sl M w q y.row) (hlen : x.row.length ≤ 9223372036854775807) :
    GivesIn Φ Try.prog F.delta_Same_1 #[x.v p cap, y.v q cap2] (.bool (sameD x y)) := by
  refine gives_in (Bdelta_Same_1_run x.time p x.row.length cap x.n y.time q y.row.length cap2 y.n) fun W R => ?_
  refine fun _ _ w G cx => (compareD_in x y p q cap cap2 hΦ hΨ hlen).use cx fun w cx => ⟨_, rfl, R, Φ, inferInstance, cx, Br.intro (fun h => fun w G cx => ⟨?_, cx.left⟩) (fun h => fun w G cx => ⟨?_, cx.left⟩)⟩
  · unfold sameD; rw [h, Bool.true_and]
  · unfold sameD; rw [h, Bool.false_and]

theorem EqualFunc_pin {Φ : PW} [Stable Φ] (p : Option Addr) (cap : Nat) (a : List DeltaD) (q : Option Addr) (cap2 : Nat) (b : List DeltaD) (g1 o1 : Nat) (cs1 : List (List Value)) (g2 o2 : Nat) (cs2 : List (List Value)) (hp : 0 < a.length → p = some ⟨g1, o1, none⟩) (hq : 0 < b.length → q = some ⟨g2, o2, none⟩)
    (hΦ : ∀ M w, Φ M w → Pin g1 o1 cs1 a M w) (hΨ : ∀ M w, Φ M w → Pin g2 o2 cs2 b M w) (hlen : a.length ≤ 9223372036854775807) :
    GivesIn Φ Try.prog F.slices_EqualFunc_api_Delta__api_Delta_api_Delta_api_Delta #[.slice p a.length cap, .slice q b.length cap2, .func (.func F.delta_Same_1) #[] #[]] (.bool (decide (a = b))) := by
  refine in_cells hΦ fun hc1 => in_cells hΨ fun hc2 => ?_
  refine gives_in (Bslices_EqualFunc_api_Delta__api_Delta_api_Delta_api_Delta_run p a.length cap q b.length cap2 F.delta_Same_1 #[]) fun W R => ?_
  refine Br.intro (fun h => fun w G cx => ⟨?_, cx.left⟩) (fun h => ?_)
  · rw [decide_eq_false]
    intro e
    have := of_decide_eq_true h
    rw [e] at this
    exact this rfl
  have hl : a.length = b.length := by have := of_decide_eq_false h; omega
  refine exI_mk (fun iI R' Φ' k => ∃ i : Nat, iI = i ∧ i ≤ a.length ∧ R' = R ∧ Φ' = Φ ∧ k = a.length - i ∧ a.take i = b.take i) ⟨⟨R, Φ, _, inferInstance, fun w F c => c, 0, rfl, Nat.zero_le _, rfl, rfl, rfl, rfl⟩, ?_⟩
  rintro iI R1 Φ1 k _ ⟨i, rfl, hi, rfl, rfl, rfl, hs⟩
  refine Br.intro (fun hlt => ?_) (fun hge => fun w F cx => ⟨?_, cx.left⟩)
  · have hlt : i < a.length := by have := of_decide_eq_true hlt; omega
    have hltb : i < b.length := by omega
    obtain ⟨r1, rc1, he1, f1, f2, _, _⟩ := hc1 i hlt
    obtain ⟨r2, rc2, he2, f3, f4, _, _⟩ := hc2 i hltb
    have hcall := Same1_in (Φ := Φ1) a[i] b[i] r1 r2 rc1 rc2 (fun M w h => pin_row (hΦ M w h) hlt he1) (fun M w h => pin_row (hΨ M w h) hltb he2) (len_max f1 f2)
    refine ⟨by omega, ptrK_intro g1 o1 (hp (by omega)) fun w G cx => ⟨a[i].time, r1, a[i].row.length, rc1, a[i].n, by rw [Int.toNat_natCast]; exact pin_rowAt (hΦ _ _ cx.phi) hlt he1, fun _ => ⟨by omega, ptrK_intro g2 o2 (hq (by omega)) fun w G cx => ⟨b[i].time, r2, b[i].row.length, rc2, b[i].n, by rw [Int.toNat_natCast]; exact pin_rowAt (hΨ _ _ cx.phi) hltb he2, fun _ w G cx => ⟨by kernel_rfl, hcall.use cx fun w cx => ⟨_, rfl, R1, Φ1, inferInstance, cx, Br.intro (fun h => fun w G cx => ⟨?_, cx.left⟩) (fun h => ⟨by unfold I64; omega, R1, Φ1, a.length - (i + 1), inferInstance, fun w F c => c, ⟨i + 1, rfl, hlt, rfl, rfl, rfl, ?_⟩, by omega⟩)⟩⟩⟩⟩⟩⟩
    · rw [decide_eq_false]
      intro e
      subst e
      have : sameD a[i] a[i] = true := sameD_eq.2 rfl
      rw [this] at h; cases h
    · have he : a[i] = b[i] := sameD_eq.1 (by simpa using h)
      rw [List.take_succ_eq_append_getElem hlt, List.take_succ_eq_append_getElem hltb, hs, he]
  · have hge : i = a.length := by have := of_decide_eq_false hge; omega
    rw [decide_eq_true]
    rw [hge, List.take_length, hl, List.take_length] at hs
    exact hs

theorem Same_in {Φ : PW} [Stable Φ] (p : Option Addr) (cap : Nat) (a : List DeltaD) (q : Option Addr) (cap2 : Nat) (b : List DeltaD) (hΦ : ∀ M w, Φ M w → Sl M w p a) (hΨ : ∀ M w, Φ M w → Sl M w q b)
    (ha : a.length ≤ 400000) (hb : b.length ≤ 400000) (hra : ∀ x ∈ a, x.row.length ≤ 1000000) (hrb : ∀ x ∈ b, x.row.length ≤ 1000000) : GivesIn Φ Try.prog F.delta_Same #[.slice p a.length cap, .slice q b.length cap2] (.bool (decide (consP a = consP b))) := by
  refine gives_in (Bdelta_Same_run p a.length cap q b.length cap2) fun W R => ?_
  refine fun w G cx => (Consolidate_sl p cap a hΦ (by omega) hra).use cx fun p1 c1 w h1 h2 cx => ⟨p1, _, c1, rfl, R, _, inferInstance, cx, fun w G cx => ?_⟩
  refine (Consolidate_sl (Φ := fun M w => Φ M w ∧ Sl M w p1 (consP a)) q cap2 b (fun M w h => hΨ M w h.1) (by omega) hrb).use cx fun p2 c2 w h3 h4 cx => ⟨p2, _, c2, rfl, R, fun M w => (Φ M w ∧ Sl M w p1 (consP a)) ∧ Sl M w p2 (consP b), inferInstance, cx, fun w G cx => ?_⟩
  have heq : GivesIn (fun M w => (Φ M w ∧ Sl M w p1 (consP a)) ∧ Sl M w p2 (consP b)) Try.prog F.slices_EqualFunc_api_Delta__api_Delta_api_Delta_api_Delta #[.slice p1 (consP a).length c1, .slice p2 (consP b).length c2, .func (.func F.delta_Same_1) #[] #[]] (.bool (decide (consP a = consP b))) :=
    .pinned (fun M w h => h.1.2) fun g1 o1 cs1 hp => .pinned (fun M w h => h.1.2) fun g2 o2 cs2 hq => EqualFunc_pin (Φ := fun M w => (((Φ M w ∧ Sl M w p1 (consP a)) ∧ Sl M w p2 (consP b)) ∧ Pin g1 o1 cs1 (consP a) M w) ∧ Pin g2 o2 cs2 (consP b) M w) p1 c1 (consP a) p2 c2 (consP b) g1 o1 cs1 g2 o2 cs2 hp hq (fun M w h => h.1.2) (fun M w h => h.2) (len_max h1 h2)
  exact heq.use cx fun w cx => ⟨_, rfl, R, Φ, inferInstance, cx.weak fun M w h => h.1.1, fun w G cx => ⟨rfl, cx.left⟩⟩

end Go.Proofs.Ytnapfhbibikbiaa
end

/-
  Lines of a difference, walked.
-/
section
set_option linter.unusedVariables false
set_option linter.unusedSimpArgs false
namespace Go.Proofs.Ytnapfhbibikbiaa
open Go.Vc


structure LineD where
  no : Int
  batch : Int
  time : Int
  row : List ValD
  n : Int
  cause : Int
  why : Int
instance : Gv LineD := Gv.via (β := Int × Int × Int × List ValD × Int × Int × Int) (fun x => (x.no, x.batch, x.time, x.row, x.n, x.cause, x.why)) (fun y => ⟨y.1, y.2.1, y.2.2.1, y.2.2.2.1, y.2.2.2.2.1, y.2.2.2.2.2.1, y.2.2.2.2.2.2⟩) (fun _ => rfl)

abbrev LineD.cells (x : LineD) (p : Option Addr) (c : Nat) : List Value := [.int .i64 x.no, .int .i64 x.batch, .int .i64 x.time, .slice p x.row.length c, .int .i64 x.n, .int .i64 x.cause, .int .i64 x.why]
abbrev LineD.v (x : LineD) (p : Option Addr) (c : Nat) : Value := .agg #[.int .i64 x.no, .int .i64 x.batch, .int .i64 x.time, .slice p x.row.length c, .int .i64 x.n, .int .i64 x.cause, .int .i64 x.why]

structure LineD.In (x : LineD) : Prop where
  no : I64 x.no
  batch : I64 x.batch
  time : I64 x.time
  n : I64 x.n
  cause : I64 x.cause
  why : I64 x.why

theorem line_cells {M : List Nat} {w : World} {cs : List Value} {x : LineD} (h : Gv.rep M w cs x) : ∃ p c, cs = x.cells p c ∧ x.row.length ≤ c ∧ c ≤ maxLen ∧ x.In ∧ Sl M w p x.row := by
  obtain ⟨_, _, rfl, ⟨rfl, h1⟩, _, _, rfl, ⟨rfl, h2⟩, _, _, rfl, ⟨rfl, h3⟩, _, _, rfl, ⟨p, c, rfl, g1, g2, g3⟩, _, _, rfl, ⟨rfl, h4⟩, _, _, rfl, ⟨rfl, h5⟩, rfl, h6⟩ := h
  exact ⟨p, c, rfl, g1, g2, ⟨h1, h2, h3, h4, h5, h6⟩, g3⟩

theorem rep_line {M : List Nat} {w : World} {x : LineD} {p : Option Addr} {c : Nat} (h1 : x.row.length ≤ c) (h2 : c ≤ maxLen) (h : x.In) (h5 : Sl M w p x.row) : Gv.rep M w (x.cells p c) x :=
  ⟨[_], [_, _, _, _, _, _], rfl, ⟨rfl, h.no⟩, [_], [_, _, _, _, _], rfl, ⟨rfl, h.batch⟩, [_], [_, _, _, _], rfl, ⟨rfl, h.time⟩, [_], [_, _, _], rfl, ⟨p, c, rfl, h1, h2, h5⟩, [_], [_, _], rfl, ⟨rfl, h.n⟩, [_], [_], rfl, ⟨rfl, h.cause⟩, rfl, h.why⟩

theorem line_row {M : List Nat} {w : World} {x : LineD} {p : Option Addr} {c : Nat} (h : Gv.rep M w (x.cells p c) x) : Sl M w p x.row := by
  obtain ⟨p', c', e, _, _, _, h1⟩ := line_cells h
  simp only [LineD.cells, List.cons.injEq, Value.slice.injEq] at e
  rw [e.2.2.2.1.1]
  exact h1

theorem line_one (M : List Nat) (w : World) (cs : List Value) (x : LineD) (h : Gv.rep M w cs x) : (cs.all fun u => oneC u) = true := by
  obtain ⟨p, c, rfl, _⟩ := line_cells h
  rfl

theorem pin_line {M : List Nat} {w : World} {b o : Nat} {cs : List (List Value)} {l : List LineD} (h : Pin b o cs l M w) {j : Nat} (hj : j < l.length) : ∃ p c, cs.getD j [] = l[j].cells p c ∧ l[j].row.length ≤ c ∧ c ≤ maxLen ∧ l[j].In := by
  obtain ⟨_, h1, h2⟩ := h j hj
  obtain ⟨p, c, e, g1, g2, g3, _⟩ := line_cells h2
  exact ⟨p, c, e, g1, g2, g3⟩

theorem pinl_row {M : List Nat} {w : World} {b o : Nat} {cs : List (List Value)} {l : List LineD} (h : Pin b o cs l M w) {j : Nat} (hj : j < l.length) {p : Option Addr} {c : Nat} (e : cs.getD j [] = l[j].cells p c) : Sl M w p l[j].row := by
  have := (h j hj).2.2
  rw [e] at this
  exact line_row this

theorem pinl_rowAt {M : List Nat} {w : World} {b o : Nat} {cs : List (List Value)} {l : List LineD} (h : Pin b o cs l M w) {j : Nat} (hj : j < l.length) {p : Option Addr} {c : Nat} (e : cs.getD j [] = l[j].cells p c) : RowAt w b (o + j * 7) (l[j].cells p c) := by
  have := (h j hj).2.1
  rw [e] at this
  exact this

/-- the pinned cells, for good -/
theorem in_linesV {Φ : PW} {f : FuncId} {args : Array Value} {v : Value} {b o : Nat} {cs : List (List Value)} {l : List LineD} (hΦ : ∀ M w, Φ M w → Pin b o cs l M w)
    (h : (∀ j, (hj : j < l.length) → ∃ p c, cs.getD j [] = l[j].cells p c ∧ l[j].row.length ≤ c ∧ c ≤ maxLen ∧ l[j].In) → GivesIn Φ Try.prog f args v) : GivesIn Φ Try.prog f args v :=
  ⟨fun W w S c => (h fun j hj => pin_line (hΦ _ _ c.phi) hj).go W w S c⟩

/-! ### Lines -/
def lineP (no batch mark replace : Int) (i : Nat) (x : DeltaD) : LineD :=
  ⟨w64 (no + i), batch, x.time, x.row, x.n, if 0 < replace then 2 else if mark < x.time then 0 else 1, if 0 < replace then replace else 0⟩
def linesC (no batch mark replace : Int) (c : List DeltaD) : List LineD := c.mapIdx (lineP no batch mark replace)
def linesP (no batch mark replace : Int) (d : List DeltaD) : List LineD := linesC no batch mark replace (consP d)

theorem linesC_len (no batch mark replace : Int) (c : List DeltaD) : (linesC no batch mark replace c).length = c.length := by unfold linesC; simp
theorem linesC_at (no batch mark replace : Int) (c : List DeltaD) {i : Nat} (h : i < c.length) : (linesC no batch mark replace c)[i]'(by rw [linesC_len]; exact h) = lineP no batch mark replace i c[i] := by
  unfold linesC; simp
theorem linesC_take (no batch mark replace : Int) (c : List DeltaD) {i : Nat} (h : i < c.length) : (linesC no batch mark replace c).take (i + 1) = (linesC no batch mark replace c).take i ++ [lineP no batch mark replace i c[i]] := by
  rw [List.take_succ_eq_append_getElem (by rw [linesC_len]; exact h), linesC_at no batch mark replace c h]

set_option maxHeartbeats 1000000 in
theorem Lines_sl {Φ : PW} [Stable Φ] (p : Option Addr) (cap : Nat) (d : List DeltaD) (no batch mark replace : Int) (hΦ : ∀ M w, Φ M w → Sl M w p d) (hb : I64 batch) (hr : I64 replace)
    (hlen : d.length ≤ 1000000) (hrow : ∀ x ∈ d, x.row.length ≤ 1000000) : GivesSl Φ Try.prog F.difference_Lines #[.slice p d.length cap, .int .i64 no, .int .i64 batch, .int .i64 mark, .int .i64 replace] (linesP no batch mark replace d) id := by
  refine gives_sl (Bdifference_Lines_run p d.length cap no batch mark replace) fun W R => ?_
  refine fun w G cx => (Consolidate_sl p cap d hΦ hlen hrow).use cx fun q c2 w h1 h2 cx => ?_
  have hcl : (consP d).length ≤ 1000000 := Nat.le_trans (consP_len d) hlen
  unfold linesP
  generalize consP d = c at h1 cx hcl ⊢
  obtain ⟨g, o, cs, hq, cx⟩ := cx.pin cx.phi.2
  have hst0 : Stable (fun M w => (Φ M w ∧ Sl M w q c) ∧ Pin g o cs c M w) := inferInstance
  have hcs : ∀ j, (hj : j < c.length) → ∃ p k, cs.getD j [] = c[j].cells p k ∧ c[j].row.length ≤ k ∧ k ≤ maxLen ∧ I64 c[j].time ∧ I64 c[j].n := fun j hj => by
    obtain ⟨p, k, h1, h2, h3, h4, h5, _⟩ := pin_delta cx.phi.2 hj
    exact ⟨p, k, h1, h2, h3, h4, h5⟩
  refine ⟨q, _, c2, rfl, R, fun M w => Φ M w ∧ Pin g o cs c M w, inferInstance, cx.weak fun M w h => ⟨h.1.1, h.2⟩, ?_⟩
  clear cx hst0
  refine exI_mk (fun sp sn sc iI R' Φ' k => ∃ (i : Nat) (ds : List Value), iI = i ∧ i ≤ c.length ∧ i = sn ∧ R' = .buf sp sn sc ds 32 7 :: R ∧ Φ' = (fun M w => (Φ M w ∧ Pin g o cs c M w) ∧ Elems M w ds ((linesC no batch mark replace c).take i)) ∧ k = c.length - i)
    ⟨⟨.buf none 0 0 [] 32 7 :: R, fun M w => (Φ M w ∧ Pin g o cs c M w) ∧ Elems M w [] ((linesC no batch mark replace c).take 0), _, inferInstance, fun w G cx => (cx.weak fun M w h => ⟨h, Elems.nil⟩).nobuf 32 7, 0, [], rfl, Nat.zero_le _, rfl, rfl, rfl, rfl⟩, ?_⟩
  rintro sp _ sc iI R1 Φ1 k _ ⟨i, ds, rfl, hi, rfl, rfl, rfl, rfl⟩
  refine Br.intro (fun hlt => ?_) (fun hge => fun w G cx => ?_)
  · have hlt := of_decide_eq_true hlt
    have hlt : i < c.length := by omega
    obtain ⟨r, rc, he, g1, g2, g3, g4⟩ := hcs i hlt
    refine ⟨by omega, ptrK_intro g o (hq (by omega)) fun w G cx => ⟨c[i].time, r, c[i].row.length, rc, c[i].n, by rw [Int.toNat_natCast]; exact pin_rowAt cx.phi.1.2 hlt he, fun _ _ => Br.intro (fun h => ?_) (fun h => Br.intro (fun h3 => ?_) (fun h3 => ?_))⟩⟩
    case' refine_1 => obtain ⟨x, hx, hxc⟩ : ∃ x : LineD, lineP no batch mark replace i c[i] = x ∧ x = ⟨w64 (no + i), batch, c[i].time, c[i].row, c[i].n, 2, replace⟩ := ⟨_, rfl, by unfold lineP; rw [if_pos (of_decide_eq_true h), if_pos (of_decide_eq_true h)]⟩
    case' refine_2 => obtain ⟨x, hx, hxc⟩ : ∃ x : LineD, lineP no batch mark replace i c[i] = x ∧ x = ⟨w64 (no + i), batch, c[i].time, c[i].row, c[i].n, 0, 0⟩ := ⟨_, rfl, by unfold lineP; rw [if_neg (of_decide_eq_false h), if_neg (of_decide_eq_false h), if_pos (of_decide_eq_true h3)]⟩
    case' refine_3 => obtain ⟨x, hx, hxc⟩ : ∃ x : LineD, lineP no batch mark replace i c[i] = x ∧ x = ⟨w64 (no + i), batch, c[i].time, c[i].row, c[i].n, 1, 0⟩ := ⟨_, rfl, by unfold lineP; rw [if_neg (of_decide_eq_false h), if_neg (of_decide_eq_false h), if_neg (of_decide_eq_false h3)]⟩
    all_goals
      intro k w G cx
      have hin : x.In := by subst hxc; exact ⟨w64_in _, hb, g3, g4, by unfold I64; dsimp only; omega, by first | exact hr | (unfold I64; dsimp only; omega)⟩
      have hxr : x.row = c[i].row := by rw [hxc]
      obtain ⟨p', cap', w', hrun, _, cx'⟩ := Ctx.app1 (P := Try.prog) (ts := 25) (ty := 25) (kb := #[false, false]) (size := 7) (bytes := 72) cx (by kernel_rfl) (by omega) rfl rfl (by omega) (by omega)
      have hst3 : Stable (fun M w => (Φ M w ∧ Pin g o cs c M w) ∧ Elems M w (ds ++ x.cells r rc) ((linesC no batch mark replace c).take (i + 1))) := inferInstance
      refine ⟨p', i + 1, cap', w', hrun, .buf p' (i + 1) cap' (ds ++ x.cells r rc) 32 7 :: R, _, hst3, ?_, by unfold I64; omega, _, _, c.length - (i + 1), hst3, fun w G cx => cx, ⟨i + 1, _, by omega, hlt, rfl, rfl, rfl, rfl⟩, by omega⟩
      subst hxc
      refine cx'.weak fun M w h => ⟨h.1, ?_⟩
      rw [linesC_take no batch mark replace c hlt, hx]
      exact h.2.snoc (rep_line (by rw [hxr]; exact g1) g2 hin (by rw [hxr]; exact pin_row h.1.2 hlt he))
  · have hge := of_decide_eq_false hge
    have hi : i = c.length := by omega
    subst hi
    have hall : (linesC no batch mark replace c).take c.length = linesC no batch mark replace c := List.take_of_length_le (by rw [linesC_len]; exact Nat.le_refl _)
    rw [hall] at cx
    obtain ⟨_, f1, f2⟩ := cx.left.bufLen 0 rfl
    obtain ⟨cx3, hs, _⟩ := Ctx.freeze (α := LineD) cx.left.fst cx.left.phi.2
    exact ⟨sp, sc, by rw [linesC_len]; rfl, by rw [linesC_len]; exact f1, f2, (cx3.add hs).weak fun M w h => ⟨h.1.1, h.2⟩⟩

/-! ### Net -/
def LineD.d (x : LineD) : DeltaD := ⟨x.time, x.row, x.n⟩
def netP (l : List LineD) : List DeltaD := consP (l.map LineD.d)

set_option maxHeartbeats 1000000 in
theorem Net_pin {Φ : PW} [Stable Φ] (q : Option Addr) (cap : Nat) (l : List LineD) (g o : Nat) (cs : List (List Value)) (hq : 0 < l.length → q = some ⟨g, o, none⟩) (hΨ : ∀ M w, Φ M w → Pin g o cs l M w)
    (hlen : l.length ≤ 400000) (hrow : ∀ x ∈ l, x.row.length ≤ 1000000) : GivesSl Φ Try.prog F.difference_Net #[.slice q l.length cap] (netP l) id := by
  refine ⟨fun W0 w0 S0 c0 => ?_⟩
  have hcs : ∀ j, (hj : j < l.length) → ∃ p c, cs.getD j [] = l[j].cells p c ∧ l[j].row.length ≤ c ∧ c ≤ maxLen ∧ l[j].In := fun j hj => pin_line (hΨ _ _ c0.phi) hj
  refine GivesSl.go (gives_sl (Bdifference_Net_run q l.length cap) fun W R => ?_) W0 w0 S0 c0
  clear c0
  refine exI_mk (fun sp sn sc iI R' Φ' k => ∃ (i : Nat) (ds : List Value), iI = i ∧ i ≤ l.length ∧ sn = ((l.take i).map LineD.d).length ∧ R' = .buf sp sn sc ds 38 3 :: R ∧ Φ' = (fun M w => Φ M w ∧ Elems M w ds ((l.take i).map LineD.d)) ∧ k = l.length - i)
    ⟨⟨.buf none 0 0 [] 38 3 :: R, fun M w => Φ M w ∧ Elems M w [] ((l.take 0).map LineD.d), _, inferInstance, fun w G cx => (cx.weak fun M w h => ⟨h, Elems.nil⟩).nobuf 38 3, 0, [], rfl, Nat.zero_le _, rfl, rfl, rfl, rfl⟩, ?_⟩
  rintro sp _ sc iI R1 Φ1 k _ ⟨i, ds, rfl, hi, rfl, rfl, rfl, rfl⟩
  have hln : ((l.take i).map LineD.d).length = i := by simp; omega
  have hst : Stable (fun M w => Φ M w ∧ Elems M w ds ((l.take i).map LineD.d)) := inferInstance
  refine Br.intro (fun hlt => ?_) (fun hge => fun w G cx => ?_)
  · have hlt := of_decide_eq_true hlt
    have hlt : i < l.length := by omega
    obtain ⟨r, rc, he, h1, h2, h3⟩ := hcs i hlt
    refine ⟨by omega, ptrK_intro g o (hq (by omega)) fun w G cx => ⟨l[i].no, l[i].batch, l[i].time, r, l[i].row.length, rc, l[i].n, l[i].cause, l[i].why, by rw [Int.toNat_natCast]; exact pinl_rowAt (hΨ _ _ cx.phi.1) hlt he, fun _ k w G cx => ?_⟩⟩
    obtain ⟨p', cap', w', hrun, _, cx'⟩ := Ctx.app1 (P := Try.prog) (ts := 22) (ty := 22) (kb := #[false, false]) (size := 3) (bytes := 40) cx (by kernel_rfl) (by omega) rfl rfl (by omega) (by omega)
    have htk : (l.take (i + 1)).map LineD.d = (l.take i).map LineD.d ++ [l[i].d] := by rw [List.take_succ_eq_append_getElem hlt, List.map_append]; rfl
    have hln2 : ((l.take i).map LineD.d).length + 1 = ((l.take (i + 1)).map LineD.d).length := by rw [htk, List.length_append (bs := [l[i].d])]; rfl
    rw [hln2] at cx' hrun
    have hst3 : Stable (fun M w => Φ M w ∧ Elems M w (ds ++ l[i].d.cells r rc) ((l.take (i + 1)).map LineD.d)) := inferInstance
    refine ⟨p', _, cap', w', hrun, .buf p' ((l.take (i + 1)).map LineD.d).length cap' (ds ++ l[i].d.cells r rc) 38 3 :: R, _, hst3, cx'.weak fun M w h => ⟨h.1, ?_⟩, by unfold I64; omega, _, _, l.length - (i + 1), hst3, fun w G cx => cx, ⟨i + 1, _, by omega, hlt, rfl, rfl, rfl, rfl⟩, by omega⟩
    rw [htk]
    exact h.2.snoc (rep_delta (x := l[i].d) h1 h2 h3.time h3.n (show Sl M w r l[i].row from pinl_row (hΨ M w h.1) hlt he))
  · have hge := of_decide_eq_false hge
    have hi : i = l.length := by omega
    subst hi
    rw [List.take_length] at cx ⊢
    obtain ⟨cx3, hs, _⟩ := Ctx.freeze (α := DeltaD) cx.fst cx.phi.2
    have hst4 : Stable (fun M w => Φ M w ∧ Sl M w sp (l.map LineD.d)) := inferInstance
    refine (Consolidate_sl (Φ := fun M w => Φ M w ∧ Sl M w sp (l.map LineD.d)) sp sc (l.map LineD.d) (fun M w h => h.2) (by simp; omega) (fun x hx => ?_)).use (cx3.add hs) fun p3 c3 w h1 h2 cx => ⟨p3, _, c3, rfl, R, fun M w => Φ M w ∧ Sl M w p3 (netP l), inferInstance, cx.weak fun M w h => ⟨h.1.1, h.2⟩, fun w G cx => ⟨p3, c3, rfl, h1, h2, cx.left⟩⟩
    obtain ⟨y, hy, rfl⟩ := List.mem_map.1 hx
    exact hrow y hy

theorem Net_sl {Φ : PW} [Stable Φ] (q : Option Addr) (cap : Nat) (l : List LineD) (hΨ : ∀ M w, Φ M w → Sl M w q l)
    (hlen : l.length ≤ 400000) (hrow : ∀ x ∈ l, x.row.length ≤ 1000000) : GivesSl Φ Try.prog F.difference_Net #[.slice q l.length cap] (netP l) id :=
  .pinned hΨ fun g o cs hq => Net_pin (Φ := fun M w => Φ M w ∧ Pin g o cs l M w) q cap l g o cs hq (fun M w h => h.2) hlen hrow

/-! ### Least -/
def causeP (x y : LineD) : Bool := decide (x.cause = y.cause) || decide (x.cause = 1) && decide (y.cause = 0) && decide (x.time < y.time)
def followsP (x y : LineD) : Bool :=
  if y.no ≠ w64 (x.no + 1) then false else if y.batch ≠ x.batch then false else if y.why ≠ x.why then false else if y.time < x.time then false
  else if y.time = x.time then (if 0 ≤ cmpR x.row y.row then false else causeP x y) else causeP x y

theorem follows_in {Φ : PW} [Stable Φ] (x y : LineD) (p q : Option Addr) (c c2 : Nat) (hΦ : ∀ M w, Φ M w → Sl M w p x.row) (hΨ : ∀ M w, Φ M w → Sl M w q y.row) (hlen : x.row.length ≤ 9223372036854775807) :
    GivesIn Φ Try.prog F.difference_follows #[x.v p c, y.v q c2] (.bool (followsP x y)) := by
  refine gives_in (Bdifference_follows_run x.no x.batch x.time p x.row.length c x.n x.cause x.why y.no y.batch y.time q y.row.length c2 y.n y.cause y.why) fun W R => ?_
  unfold followsP
  refine fun _ _ => Br.intro (fun h => fun w G cx => ⟨by rw [if_pos (of_decide_eq_true h)], cx.left⟩) (fun h => ?_)
  rw [if_neg (of_decide_eq_false h)]
  refine Br.intro (fun h => fun w G cx => ⟨by rw [if_pos (of_decide_eq_true h)], cx.left⟩) (fun h => ?_)
  rw [if_neg (of_decide_eq_false h)]
  refine Br.intro (fun h => fun w G cx => ⟨by rw [if_pos (of_decide_eq_true h)], cx.left⟩) (fun h => ?_)
  rw [if_neg (of_decide_eq_false h)]
  refine Br.intro (fun h => fun w G cx => ⟨by rw [if_pos (of_decide_eq_true h)], cx.left⟩) (fun h => ?_)
  rw [if_neg (of_decide_eq_false h)]
  refine Br.intro (fun h => fun w G cx => ?_) (fun h => fun w G cx w G cx => ⟨by rw [if_neg (of_decide_eq_false h)]; rfl, cx.left⟩)
  rw [if_pos (of_decide_eq_true h)]
  exact (CompareRows_in p q c c2 x.row y.row hΦ hΨ hlen).use cx fun w cx => ⟨_, rfl, R, Φ, inferInstance, cx, Br.intro (fun h => fun w G cx => ⟨by rw [if_pos (of_decide_eq_true h)], cx.left⟩) (fun h => fun w G cx w G cx => ⟨by rw [if_neg (of_decide_eq_false h)]; rfl, cx.left⟩)⟩

def okL (x : LineD) : Bool := !decide (x.n = 0) && ((decide (x.cause = 2) && decide (0 < x.why)) || ((decide (x.cause = 0) || decide (x.cause = 1)) && decide (x.why = 0)))
def okAt (l : List LineD) (i : Nat) : Bool :=
  match l[i]? with
  | none => true
  | some x => okL x && (match i with
    | 0 => true
    | j + 1 => match l[j]? with
      | none => true
      | some y => followsP y x)
def leastP (l : List LineD) : Bool := (List.range l.length).all (okAt l)

theorem okAt_zero {l : List LineD} (h : 0 < l.length) : okAt l 0 = okL l[0] := by
  unfold okAt; rw [List.getElem?_eq_getElem h]; simp
theorem okAt_succ {l : List LineD} {j : Nat} (h : j + 1 < l.length) : okAt l (j + 1) = (okL l[j + 1] && followsP l[j] l[j + 1]) := by
  unfold okAt
  rw [List.getElem?_eq_getElem h]
  simp only [List.getElem?_eq_getElem (show j < l.length by omega)]
theorem okAt_bad {l : List LineD} {i : Nat} (h : i < l.length) (hx : okL l[i] = false) : okAt l i = false := by
  cases i with
  | zero => rw [okAt_zero h, hx]
  | succ j => rw [okAt_succ h, hx, Bool.false_and]
theorem least_bad {l : List LineD} {i : Nat} (h : i < l.length) (hx : okAt l i = false) : leastP l = false := by
  unfold leastP
  cases e : (List.range l.length).all (okAt l) with
  | false => rfl
  | true =>
    rw [List.all_eq_true] at e
    rw [e i (List.mem_range.2 h)] at hx
    cases hx
theorem range_all {f : Nat → Bool} {i : Nat} (h : (List.range i).all f = true) (hi : f i = true) : (List.range (i + 1)).all f = true := by
  rw [List.range_succ, List.all_append, h]
  simp [hi]

end Go.Proofs.Ytnapfhbibikbiaa
end

/-
  Least, at, small, walked.
-/
section
set_option linter.unusedVariables false
set_option linter.unusedSimpArgs false
namespace Go.Proofs.Ytnapfhbibikbiaa
open Go.Vc


theorem okL_zero {x : LineD} (h : x.n = 0) : okL x = false := by unfold okL; rw [decide_eq_true h]; rfl

set_option maxHeartbeats 1000000 in
theorem Least_pin {Φ : PW} [Stable Φ] (q : Option Addr) (cap : Nat) (l : List LineD) (g o : Nat) (cs : List (List Value)) (hq : 0 < l.length → q = some ⟨g, o, none⟩) (hΨ : ∀ M w, Φ M w → Pin g o cs l M w) (hlen : l.length ≤ 1000000) :
    GivesIn Φ Try.prog F.difference_Least #[.slice q l.length cap] (.bool (leastP l)) := by
  refine in_linesV hΨ fun hcs => ?_
  refine gives_in (Bdifference_Least_run q l.length cap) fun W R => ?_
  refine exI_mk (fun iI R' Φ' k => ∃ i : Nat, iI = i ∧ i ≤ l.length ∧ R' = R ∧ Φ' = Φ ∧ k = l.length - i ∧ (List.range i).all (okAt l) = true)
    ⟨⟨R, Φ, _, inferInstance, fun w G cx => cx, 0, rfl, Nat.zero_le _, rfl, rfl, rfl, rfl⟩, ?_⟩
  rintro iI R1 Φ1 k _ ⟨i, rfl, hi, rfl, rfl, rfl, hs⟩
  refine Br.intro (fun hlt => ?_) (fun hge => fun w G cx => ?_)
  · have hlt := of_decide_eq_true hlt
    have hlt : i < l.length := by omega
    obtain ⟨r, rc, he, h1, h2, h3⟩ := hcs i hlt
    refine ⟨by omega, ptrK_intro g o (hq (by omega)) fun w G cx => ⟨l[i].no, l[i].batch, l[i].time, r, l[i].row.length, rc, l[i].n, l[i].cause, l[i].why, by rw [Int.toNat_natCast]; exact pinl_rowAt (hΨ _ _ cx.phi) hlt he, fun _ w G cx w G cx => ⟨R1, Φ1, inferInstance, fun w G cx => cx, ?_⟩⟩⟩
    clear cx
    refine Br.intro (fun h0 => fun w G cx => ⟨?_, cx.left⟩) (fun h0 => Br.intro (fun hr => Br.intro (fun ho => fun w G cx => ⟨?_, cx.left⟩) (fun ho => ?_)) (fun hr => ?_))
    · rw [least_bad hlt (okAt_bad hlt (okL_zero (of_decide_eq_true h0)))]
    · refine congrArg Value.bool ?_
      rw [least_bad hlt (okAt_bad hlt ?_)]
      unfold okL
      rw [show (decide (l[i].cause = 2) && decide (0 < l[i].why)) = false by simpa only [Bool.not_eq_true'] using hr, show ((decide (l[i].cause = 0) || decide (l[i].cause = 1)) && decide (l[i].why = 0)) = false by simpa only [Bool.not_eq_true'] using ho, Bool.or_false, Bool.and_false]
    case' refine_1.refine_3 =>
      have hok : okL l[i] = true := by
        unfold okL
        rw [h0, show ((decide (l[i].cause = 0) || decide (l[i].cause = 1)) && decide (l[i].why = 0)) = true by simpa only [Bool.not_eq_false'] using ho, Bool.or_true]; rfl
    case' refine_1.refine_4 =>
      have hok : okL l[i] = true := by
        unfold okL
        rw [h0, show (decide (l[i].cause = 2) && decide (0 < l[i].why)) = true by simpa only [Bool.not_eq_false'] using hr, Bool.true_or]; rfl
    all_goals
      refine Br.intro (fun hpos => ?_) (fun hpos => ⟨by unfold I64; omega, _, _, l.length - (i + 1), inferInstance, fun w G cx => cx, ⟨i + 1, by omega, hlt, rfl, rfl, rfl, range_all hs ?_⟩, by omega⟩)
      · have hpos := of_decide_eq_true hpos
        obtain ⟨j, rfl⟩ : ∃ j, i = j + 1 := ⟨i - 1, by omega⟩
        have hj : j < l.length := by omega
        have hji : (((j + 1 : Nat) : Int) - 1).toNat = j := by omega
        obtain ⟨r2, rc2, he2, f1, f2, f3⟩ := hcs j hj
        have hcall := follows_in (Φ := Φ1) l[j] l[j + 1] r2 r rc2 rc (fun M w h => pinl_row (hΨ M w h) hj he2) (fun M w h => pinl_row (hΨ M w h) hlt he) (len_max f1 f2)
        refine ⟨by unfold I64; omega, by omega, ptrK_intro g o (hq (by omega)) ⟨l[j].no, l[j].batch, l[j].time, r2, l[j].row.length, rc2, l[j].n, l[j].cause, l[j].why, fun w G cx => ⟨_, _, _, _, _, _, _, _, _, by rw [hji]; exact pinl_rowAt (hΨ _ _ cx.phi) hj he2, rfl⟩, fun w G cx => hcall.use cx fun w cx => ⟨_, rfl, R1, Φ1, inferInstance, cx, Br.intro (fun hf => fun w G cx => ⟨?_, cx.left⟩) (fun hf => ⟨by unfold I64; omega, _, _, l.length - (j + 2), inferInstance, fun w G cx => cx, ⟨j + 2, by omega, hlt, rfl, rfl, rfl, range_all hs ?_⟩, by omega⟩)⟩⟩⟩
        · refine congrArg Value.bool (least_bad hlt ?_).symm
          rw [okAt_succ hlt, show followsP l[j] l[j + 1] = false by simpa using hf, Bool.and_false]
        · rw [okAt_succ hlt, hok, show followsP l[j] l[j + 1] = true by simpa using hf]; rfl
      · have hpos := of_decide_eq_false hpos
        have hi0 : i = 0 := by omega
        subst hi0
        rw [okAt_zero hlt, hok]
  · have hge := of_decide_eq_false hge
    have hi : i = l.length := by omega
    rw [hi] at hs
    exact ⟨congrArg Value.bool hs.symm, cx.left⟩

theorem Least_in {Φ : PW} [Stable Φ] (q : Option Addr) (cap : Nat) (l : List LineD) (hΨ : ∀ M w, Φ M w → Sl M w q l) (hlen : l.length ≤ 1000000) :
    GivesIn Φ Try.prog F.difference_Least #[.slice q l.length cap] (.bool (leastP l)) :=
  .pinned hΨ fun g o cs hq => Least_pin (Φ := fun M w => Φ M w ∧ Pin g o cs l M w) q cap l g o cs hq (fun M w h => h.2) hlen

/-! ### the examples -/
abbrev valI (n : Int) : ValD := ⟨0, n, ByteArray.mk #[]⟩
abbrev atP (t n : Int) : DeltaD := ⟨t, [valI n], 1⟩

theorem at_use {W w : World} {S : List Own} {Φ : PW} [Stable Φ] (t n : Int) (hn : I64 n) (cx : Ctx W w S Φ) {K : Ending → World → Prop}
    (hK : ∀ k w', Ctx W w' S (fun M w => Φ M w ∧ Sl M w (some ⟨k, 0, none⟩) [valI n]) → K (.returned (.agg #[.int .i64 t, .slice (some ⟨k, 0, none⟩) 1 1, .int .i64 1])) w') : Calls Try.prog F.erratalaw42_at #[.int .i64 t, .int .i64 n] w K := by
  refine (Berratalaw42_at_run t n (J := fun u w' => K (.returned u) w') cx ?_).mono fun e w' ⟨v, he, hj⟩ => by rw [he]; exact hj
  intro _ k w G cx
  have hel : Gv.rep (dom (Own.blk k [.int .i64 0, .int .i64 n, .string (ByteArray.mk #[])] 48 :: (S ++ G))) w [.int .i64 0, .int .i64 n, .string (ByteArray.mk #[])] (valI n) :=
    ⟨[.int .i64 0], _, rfl, ⟨rfl, by unfold I64; dsimp only; omega⟩, [.int .i64 n], [.string (ByteArray.mk #[])], rfl, ⟨rfl, hn⟩, rfl, Nat.zero_le _⟩
  obtain ⟨cx3, hs⟩ := cx.freezeBlk (α := ValD) (l := [valI n]) (Elems.one hel)
  exact hK k w (cx3.add hs).left

end Go.Proofs.Ytnapfhbibikbiaa
end

/-
  small, walked; the law of lines in plain Lean.
-/
section
set_option linter.unusedVariables false
set_option linter.unusedSimpArgs false
namespace Go.Proofs.Ytnapfhbibikbiaa
open Go.Vc


theorem line_iff {x y : LineD} : x = y ↔ (x.no = y.no ∧ (x.batch = y.batch ∧ (x.time = y.time ∧ (x.row = y.row ∧ (x.n = y.n ∧ (x.cause = y.cause ∧ x.why = y.why)))))) := by cases x; cases y; simp
instance : DecidableEq LineD := fun _ _ => decidable_of_iff _ line_iff.symm

theorem cellL {M : List Nat} {w : World} {g o : Nat} {cs : List (List Value)} {l : List LineD} (h : Pin g o cs l M w) (j k : Nat) (hj : j < l.length) {v : Value} {e : Nat} (he : e = o + j * 7 + k) (hv : ∀ p c, (l[j].cells p c)[k]? = some v) : w.cell? ⟨g, e, none⟩ = some v := by
  obtain ⟨p, c, e1, _⟩ := pin_line h hj
  obtain ⟨hk, hv⟩ := List.getElem?_eq_some_iff.1 (hv p c)
  rw [he, ← hv]
  exact pinl_rowAt h hj e1 k hk
theorem cellD {M : List Nat} {w : World} {g o : Nat} {cs : List (List Value)} {l : List DeltaD} (h : Pin g o cs l M w) (j k : Nat) (hj : j < l.length) {v : Value} {e : Nat} (he : e = o + j * 3 + k) (hv : ∀ p c, (l[j].cells p c)[k]? = some v) : w.cell? ⟨g, e, none⟩ = some v := by
  obtain ⟨p, c, e1, _⟩ := pin_delta h hj
  obtain ⟨hk, hv⟩ := List.getElem?_eq_some_iff.1 (hv p c)
  rw [he, ← hv]
  exact pin_rowAt h hj e1 k hk

abbrev dS : List DeltaD := [⟨5, [valI 1], -1⟩, ⟨5, [valI 2], 1⟩]
abbrev aS : List LineD := [⟨7, 3, 5, [valI 1], -1, 0, 0⟩, ⟨8, 3, 5, [valI 2], 1, 0, 0⟩]
abbrev bS : List LineD := [⟨7, 3, 5, [valI 1], -1, 1, 0⟩, ⟨8, 3, 5, [valI 2], 1, 1, 0⟩]
abbrev cS : List LineD := [⟨7, 3, 5, [valI 1], -1, 2, 2⟩, ⟨8, 3, 5, [valI 2], 1, 2, 2⟩]
theorem dS_is : subP [atP 5 2] [atP 5 1] = dS := by decide
theorem aS_is : linesP 7 3 4 0 dS = aS := by decide
theorem bS_is : linesP 7 3 5 0 dS = bS := by decide
theorem cS_is : linesP 7 3 5 2 dS = cS := by decide
theorem aS_least : leastP aS = true := by decide

theorem at_rep {M : List Nat} {w : World} {k : Nat} {t n : Int} (ht : I64 t) (h : Sl M w (some ⟨k, 0, none⟩) [valI n]) : Gv.rep M w [.int .i64 t, .slice (some ⟨k, 0, none⟩) 1 1, .int .i64 1] (atP t n) :=
  rep_delta (x := atP t n) (Nat.le_refl 1) (by decide) ht (by unfold I64; dsimp only; omega) h

theorem atP_row {t n : Int} : ∀ x ∈ [atP t n], x.row.length ≤ 1000000 := by
  intro x hx; rw [List.mem_singleton.1 hx]; show 1 ≤ 1000000; decide
theorem dS_row : ∀ x ∈ dS, x.row.length ≤ 1000000 := by decide

set_option maxHeartbeats 2000000 in
theorem small_g : Gives Try.prog F.erratalaw42_small #[] (.bool true) := by
  refine gives_of (Berratalaw42_small_run) fun W R Φ hs => ?_
  refine fun w G cx => at_use 5 1 (by unfold I64; omega) cx fun k1 w cx => ⟨5, _, 1, 1, 1, rfl, R, fun M w => Φ M w ∧ Sl M w (some ⟨k1, 0, none⟩) [valI 1], inferInstance, cx, fun k2 w G cx => ?_⟩
  obtain ⟨cx, h1⟩ := cx.freezeBlk (α := DeltaD) (l := [atP 5 1]) (Elems.one (at_rep (by unfold I64; omega) (cx.phi.2)))
  refine at_use 5 2 (by unfold I64; omega) ((cx.add h1).weak fun M w h => (⟨h.1.1, h.2⟩ : Φ M w ∧ Sl M w (some ⟨k2, 0, none⟩) [atP 5 1])) fun k3 w cx => ⟨5, _, 1, 1, 1, rfl, R, fun M w => (Φ M w ∧ Sl M w (some ⟨k2, 0, none⟩) [atP 5 1]) ∧ Sl M w (some ⟨k3, 0, none⟩) [valI 2], inferInstance, cx, fun k4 w G cx => ?_⟩
  obtain ⟨cx, h2⟩ := cx.freezeBlk (α := DeltaD) (l := [atP 5 2]) (Elems.one (at_rep (by unfold I64; omega) (cx.phi.2)))
  refine (Diff_sl (Φ := fun M w => (Φ M w ∧ Sl M w (some ⟨k2, 0, none⟩) [atP 5 1]) ∧ Sl M w (some ⟨k4, 0, none⟩) [atP 5 2]) _ 1 [atP 5 1] _ 1 [atP 5 2] (fun M w h => h.1.2) (fun M w h => h.2) (by decide) (by decide) atP_row atP_row).use ((cx.add h2).weak fun M w h => ⟨h.1.1, h.2⟩) fun p0 c0 w g1 g2 cx => ?_
  clear h1 h2
  rw [dS_is] at cx g1 ⊢
  refine ⟨p0, 2, c0, rfl, R, fun M w => Φ M w ∧ Sl M w p0 dS, inferInstance, cx.weak fun M w h => ⟨h.1.1.1, h.2⟩, fun w G cx => ?_⟩
  refine (Lines_sl (Φ := fun M w => Φ M w ∧ Sl M w p0 dS) p0 c0 dS 7 3 4 0 (fun M w h => h.2) (by unfold I64; omega) (by unfold I64; omega) (by decide) dS_row).use cx fun p1 c1 w f1 f2 cx => ?_
  rw [aS_is] at cx f1 ⊢
  refine ⟨p1, 2, c1, rfl, R, fun M w => (Φ M w ∧ Sl M w p0 dS) ∧ Sl M w p1 aS, inferInstance, cx, fun w G cx => ?_⟩
  refine (Lines_sl (Φ := fun M w => (Φ M w ∧ Sl M w p0 dS) ∧ Sl M w p1 aS) p0 c0 dS 7 3 5 0 (fun M w h => h.1.2) (by unfold I64; omega) (by unfold I64; omega) (by decide) dS_row).use cx fun p2 c2 w f3 f4 cx => ?_
  rw [bS_is] at cx f3 ⊢
  refine ⟨p2, 2, c2, rfl, R, fun M w => ((Φ M w ∧ Sl M w p0 dS) ∧ Sl M w p1 aS) ∧ Sl M w p2 bS, inferInstance, cx, fun w G cx => ?_⟩
  refine (Lines_sl (Φ := fun M w => ((Φ M w ∧ Sl M w p0 dS) ∧ Sl M w p1 aS) ∧ Sl M w p2 bS) p0 c0 dS 7 3 5 2 (fun M w h => h.1.1.2) (by unfold I64; omega) (by unfold I64; omega) (by decide) dS_row).use cx fun p3 c3 w f5 f6 cx => ?_
  rw [cS_is] at cx f5 ⊢
  obtain ⟨gd, od, csd, hpd, cx⟩ := cx.pin cx.phi.1.1.1.2
  have hd := hpd (by decide)
  obtain ⟨ga, oa, csa, hpa, cx⟩ := cx.pin cx.phi.1.1.1.2
  have ha := hpa (by decide)
  obtain ⟨gb, ob, csb, hpb, cx⟩ := cx.pin cx.phi.1.1.1.2
  have hb := hpb (by decide)
  obtain ⟨gc, oc, csc, hpc, cx⟩ := cx.pin cx.phi.1.1.1.2
  have hc := hpc (by decide)
  refine ⟨p3, 2, c3, rfl, R, fun M w => ((((Φ M w ∧ Sl M w p1 aS) ∧ Pin gd od csd dS M w) ∧ Pin ga oa csa aS M w) ∧ Pin gb ob csb bS M w) ∧ Pin gc oc csc cS M w, inferInstance, cx.weak fun M w h => ⟨⟨⟨⟨⟨h.1.1.1.1.1.1.1.1, h.1.1.1.1.1.1.2⟩, h.1.1.1.2⟩, h.1.1.2⟩, h.1.2⟩, h.2⟩, ?_⟩
  clear hpa hpb hpc hpd cx
  refine fun w G cx => Br.intro (fun h => by exfalso; revert h; decide) (fun _ => fun w G cx => ⟨by omega, ptrK_intro gd od hd ⟨-1, cellD cx.phi.1.1.1.2 0 2 (by decide) (by omega) (fun _ _ => rfl), fun _ => by omega, ptrK_intro gd od hd ⟨1, fun _ => cellD cx.phi.1.1.1.2 1 2 (by decide) (by omega) (fun _ _ => rfl), fun _ => by omega, ptrK_intro ga oa ha ⟨7, fun _ => cellL cx.phi.1.1.2 0 0 (by decide) (by omega) (fun _ _ => rfl), fun _ => by omega, ptrK_intro ga oa ha ⟨8, fun _ => cellL cx.phi.1.1.2 1 0 (by decide) (by omega) (fun _ _ => rfl), fun _ => by omega, ptrK_intro ga oa ha ⟨0, fun _ => cellL cx.phi.1.1.2 0 5 (by decide) (by omega) (fun _ _ => rfl), fun _ => by omega, ptrK_intro ga oa ha ⟨3, fun _ => cellL cx.phi.1.1.2 0 1 (by decide) (by omega) (fun _ _ => rfl), Br.intro (fun _ => ?_) (fun h => by exfalso; revert h; decide)⟩⟩⟩⟩⟩⟩⟩)
  refine ⟨by omega, ptrK_intro gb ob hb fun w G cx => ⟨1, cellL cx.phi.1.2 0 5 (by decide) (by omega) (fun _ _ => rfl), Br.intro (fun _ => ?_) (fun h => by exfalso; revert h; decide)⟩⟩
  refine ⟨by omega, ptrK_intro gc oc hc fun w G cx => ⟨2, cellL cx.phi.2 1 5 (by decide) (by omega) (fun _ _ => rfl), Br.intro (fun _ => ?_) (fun h => by exfalso; revert h; decide)⟩⟩
  refine ⟨by omega, ptrK_intro gc oc hc fun w G cx => ⟨2, cellL cx.phi.2 1 6 (by decide) (by omega) (fun _ _ => rfl), Br.intro (fun _ => ?_) (fun h => by exfalso; revert h; decide)⟩⟩
  have hcall := Least_in (Φ := fun M w => ((((Φ M w ∧ Sl M w p1 aS) ∧ Pin gd od csd dS M w) ∧ Pin ga oa csa aS M w) ∧ Pin gb ob csb bS M w) ∧ Pin gc oc csc cS M w) p1 c1 aS (fun M w h => h.1.1.1.1.2) (by decide)
  rw [aS_least] at hcall
  exact fun w G cx => hcall.use cx fun w cx => ⟨true, rfl, R, Φ, inferInstance, cx.weak fun M w h => h.1.1.1.1.1, fun w G cx => ⟨rfl, cx.left⟩⟩

end Go.Proofs.Ytnapfhbibikbiaa
end

/-
  The law of lines in plain Lean; writing into lines.
-/
section
set_option linter.unusedVariables false
set_option linter.unusedSimpArgs false
namespace Go.Proofs.Ytnapfhbibikbiaa
open Go.Vc


theorem w64_next (x : Int) : x ≠ w64 (x + 1) := fun h => by
  have := w64_mod (x + 1)
  rw [← h] at this
  omega
theorem follows_self (x : LineD) : followsP x x = false := by unfold followsP; rw [if_pos (w64_next x.no)]

theorem cause_cases (no batch mark replace : Int) (i : Nat) (x : DeltaD) : (0 < replace ∧ (lineP no batch mark replace i x).cause = 2 ∧ (lineP no batch mark replace i x).why = replace) ∨ (¬0 < replace ∧ mark < x.time ∧ (lineP no batch mark replace i x).cause = 0 ∧ (lineP no batch mark replace i x).why = 0) ∨ (¬0 < replace ∧ ¬mark < x.time ∧ (lineP no batch mark replace i x).cause = 1 ∧ (lineP no batch mark replace i x).why = 0) := by
  unfold lineP
  by_cases h : 0 < replace
  · exact .inl ⟨h, if_pos h, if_pos h⟩
  · by_cases h2 : mark < x.time
    · exact .inr (.inl ⟨h, h2, by rw [if_neg h, if_pos h2], if_neg h⟩)
    · exact .inr (.inr ⟨h, h2, by rw [if_neg h, if_neg h2], if_neg h⟩)

theorem line_ok (no batch mark replace : Int) (i : Nat) {x : DeltaD} (h : x.n ≠ 0) : okL (lineP no batch mark replace i x) = true := by
  have hn : (lineP no batch mark replace i x).n = x.n := rfl
  unfold okL
  rw [hn, decide_eq_false h]
  rcases cause_cases no batch mark replace i x with ⟨h1, h2, h3⟩ | ⟨_, _, h2, h3⟩ | ⟨_, _, h2, h3⟩
  · rw [h2, h3, decide_eq_true h1]; rfl
  · rw [h2, h3]; rfl
  · rw [h2, h3]; rfl

theorem delta_lt {x y : DeltaD} (h : cmpD x y < 0) : x.time < y.time ∨ (x.time = y.time ∧ cmpR x.row y.row < 0) := by
  rw [cmpD_key] at h
  unfold cmpK lex at h
  have e : cmpI x.key.1 y.key.1 = cmpI x.time y.time := rfl
  rw [e] at h
  unfold cmpI at h
  by_cases h1 : x.time < y.time
  · exact .inl h1
  · rw [if_neg h1] at h
    by_cases h2 : y.time < x.time
    · rw [if_pos h2, if_pos (by decide)] at h; omega
    · rw [if_neg h2, if_neg (by decide)] at h
      exact .inr ⟨by omega, h⟩

theorem line_follows (no batch mark replace : Int) (i : Nat) {x y : DeltaD} (h : cmpD x y < 0) : followsP (lineP no batch mark replace i x) (lineP no batch mark replace (i + 1) y) = true := by
  have hno : (lineP no batch mark replace (i + 1) y).no = w64 ((lineP no batch mark replace i x).no + 1) := by
    show w64 (no + ((i + 1 : Nat) : Int)) = w64 (w64 (no + i) + 1)
    rw [w64_l]; congr 1; omega
  have hc : x.time ≤ y.time → causeP (lineP no batch mark replace i x) (lineP no batch mark replace (i + 1) y) = true := fun hle => by
    have ht : (lineP no batch mark replace i x).time = x.time := rfl
    have ht2 : (lineP no batch mark replace (i + 1) y).time = y.time := rfl
    unfold causeP
    rw [ht, ht2]
    rcases cause_cases no batch mark replace i x with ⟨h1, h2, h3⟩ | ⟨h1, h4, h2, h3⟩ | ⟨h1, h4, h2, h3⟩ <;> rcases cause_cases no batch mark replace (i + 1) y with ⟨g1, g2, g3⟩ | ⟨g1, g4, g2, g3⟩ | ⟨g1, g4, g2, g3⟩ <;> rw [h2, g2] <;> first | rfl | (exfalso; omega) | (rw [decide_eq_true (show x.time < y.time by omega)]; rfl)
  have hw : (lineP no batch mark replace (i + 1) y).why = (lineP no batch mark replace i x).why := rfl
  have hb : (lineP no batch mark replace (i + 1) y).batch = (lineP no batch mark replace i x).batch := rfl
  unfold followsP
  rw [if_neg (by rw [hno]; exact fun h => h rfl), if_neg (by rw [hb]; exact fun h => h rfl), if_neg (by rw [hw]; exact fun h => h rfl)]
  show (if y.time < x.time then false else if y.time = x.time then (if 0 ≤ cmpR x.row y.row then false else causeP _ _) else causeP _ _) = true
  rcases delta_lt h with h1 | ⟨h1, h2⟩
  · rw [if_neg (by omega), if_neg (by omega)]
    exact hc (by omega)
  · rw [if_neg (by omega), if_pos h1.symm, if_neg (by omega)]
    exact hc (by omega)

theorem lines_least (no batch mark replace : Int) {c : List DeltaD} (h : Norm c) : leastP (linesC no batch mark replace c) = true := by
  unfold leastP
  rw [List.all_eq_true]
  intro i hi
  have hi := List.mem_range.1 hi
  have hic : i < c.length := by rw [linesC_len] at hi; exact hi
  cases i with
  | zero =>
    rw [okAt_zero hi, linesC_at _ _ _ _ _ hic]
    exact line_ok _ _ _ _ _ (h.nz _ (List.getElem_mem _))
  | succ j =>
    rw [okAt_succ hi, linesC_at _ _ _ _ _ hic, linesC_at _ _ _ _ _ (show j < c.length by omega), line_ok _ _ _ _ _ (h.nz _ (List.getElem_mem _)), line_follows _ _ _ _ _ (List.pairwise_iff_getElem.1 h.asc j (j + 1) (by omega) hic (by omega))]
    rfl

theorem lines_net (no batch mark replace : Int) (c : List DeltaD) : (linesC no batch mark replace c).map LineD.d = c := by
  apply List.ext_getElem
  · rw [List.length_map, linesC_len]
  · intro i h1 h2
    rw [List.getElem_map, linesC_at _ _ _ _ _ h2]
    rfl

theorem net_lines (no batch mark replace : Int) (d : List DeltaD) : netP (linesP no batch mark replace d) = consP d := by
  unfold netP linesP
  rw [lines_net, consP_cons]

/-- a line twice -/
theorem twice_bad {l : List LineD} {i : Nat} (h : i < l.length) : leastP (l.take (i + 1) ++ l.drop i) = false := by
  have hlen : (l.take (i + 1) ++ l.drop i).length = l.length + 1 := by simp; omega
  have h1 : (l.take (i + 1) ++ l.drop i)[i]'(by omega) = l[i] := by
    rw [List.getElem_append_left (by rw [List.length_take]; omega), List.getElem_take]
  have h2 : (l.take (i + 1) ++ l.drop i)[i + 1]'(by omega) = l[i] := by
    rw [List.getElem_append_right (by rw [List.length_take]; omega), List.getElem_drop]
    congr 1
    rw [List.length_take]; omega
  refine least_bad (i := i + 1) (by omega) ?_
  rw [okAt_succ (by omega), h1, h2, follows_self, Bool.and_false]

/-- one without anything -/
theorem empty_bad {l : List LineD} {i : Nat} (h : i < l.length) : leastP (l.set i { l[i] with n := 0 }) = false := by
  have hi : i < (l.set i { l[i] with n := 0 }).length := by rw [List.length_set]; exact h
  exact least_bad hi (okAt_bad hi (by rw [List.getElem_set_self]; exact okL_zero rfl))

/-- two in another order -/
theorem turned_bad (no batch mark replace : Int) {c : List DeltaD} (h : Norm c) {i : Nat} (hi : i + 1 < c.length) {t : List LineD} (hl : t.length = c.length) {x y : LineD} (hx : t[i]'(by omega) = x) (hy : t[i + 1]'(by omega) = y)
    (h1 : x.time = c[i + 1].time ∧ x.row = c[i + 1].row) (h2 : y.time = c[i].time ∧ y.row = c[i].row) : leastP t = false := by
  refine least_bad (i := i + 1) (by omega) ?_
  rw [okAt_succ (by omega), hx, hy]
  have hf : followsP x y = false := by
    unfold followsP
    split
    · rfl
    split
    · rfl
    split
    · rfl
    rw [h1.1, h1.2, h2.1, h2.2]
    have := List.pairwise_iff_getElem.1 h.asc i (i + 1) (by omega) hi (by omega)
    rcases delta_lt this with h3 | ⟨h3, h4⟩
    · rw [if_pos h3]
    · rw [if_neg (by omega), if_pos h3, if_pos]
      have := (cmpR_cmp.anti c[i + 1].row c[i].row).2 h4
      omega
  rw [hf, Bool.and_false]

end Go.Proofs.Ytnapfhbibikbiaa
end

/-
  Writing into lines.
-/
section
set_option linter.unusedVariables false
set_option linter.unusedSimpArgs false
namespace Go.Proofs.Ytnapfhbibikbiaa
open Go.Vc


abbrev bufL (p : Option Addr) (n cap : Nat) (cs : List Value) : Own := .buf p n cap cs 32 7

theorem lrow {M : List Nat} {w : World} {cs : List Value} {l : List LineD} (h : Elems M w cs l) {i : Nat} (hi : i < l.length) : ∃ p c, (cs.drop (i * 7)).take 7 = l[i].cells p c ∧ l[i].row.length ≤ c ∧ c ≤ maxLen ∧ l[i].In ∧ Sl M w p l[i].row :=
  line_cells (h.2 i hi)

theorem lcells_len {M : List Nat} {w : World} {cs : List Value} {l : List LineD} (h : Elems M w cs l) : cs.length = l.length * 7 := h.1

theorem l_ptr {W w : World} {S : List Own} {Φ : PW} {p : Option Addr} {n cap : Nat} {cs : List Value} (cx : Ctx W w (bufL p n cap cs :: S) Φ) (h : 0 < cs.length) : ∃ g, p = some ⟨g, 0, none⟩ := by
  obtain ⟨g, hg, _⟩ := cx.bufCell 0 rfl h
  exact ⟨g, hg⟩

theorem l_at {W w : World} {S : List Own} {Φ : PW} {g n cap : Nat} {cs : List Value} (cx : Ctx W w (bufL (some ⟨g, 0, none⟩) n cap cs :: S) Φ) {i : Nat} {x : LineD} {p : Option Addr} {c : Nat} (h : (cs.drop (i * 7)).take 7 = x.cells p c) : RowAt w g (i * 7) (x.cells p c) :=
  cx.bufRow 0 rfl rfl (rows_of h)

theorem l_can {W w : World} {S : List Own} {Φ : PW} {g n cap : Nat} {cs : List Value} (cx : Ctx W w (bufL (some ⟨g, 0, none⟩) n cap cs :: S) Φ) {o m : Nat} (h : o + m ≤ cs.length) : CanWrite w g o m :=
  cx.bufCan 0 rfl rfl h

theorem setL_cell : ∀ (vs : List Value) (k : Nat) (cs : List Value) (o : Nat) (v : Value), k < vs.length → (∀ j, (hj : j < vs.length) → cs[o + j]? = some vs[j]) → setL cs (o + k) [v] = setL cs o (vs.set k v) := by
  intro vs k cs o v hk h
  have hlast : o + (vs.length - 1) < cs.length := (List.getElem?_eq_some_iff.1 (h (vs.length - 1) (by omega))).1
  apply List.ext_getElem?
  intro j
  by_cases h1 : j < o
  · rw [setL_get _ _ _ _ (.inl (by omega)), setL_get _ _ _ _ (.inl h1)]
  · by_cases h2 : o + vs.length ≤ j
    · rw [setL_get _ _ _ _ (.inr (by simp; omega)), setL_get _ _ _ _ (.inr (by rw [List.length_set]; exact h2))]
    · obtain ⟨m, rfl⟩ : ∃ m, j = o + m := ⟨j - o, by omega⟩
      rw [setL_in (vs.set k v) cs o m (by rw [List.length_set]; omega) (by rw [List.length_set]; omega)]
      by_cases h3 : m = k
      · subst h3
        have := setL_in [v] cs (o + m) 0 (by simp) (by simp; omega)
        rw [Nat.add_zero] at this
        rw [this, List.getElem?_set_self hk]
        rfl
      · rw [setL_get _ _ _ _ (by simp; omega), List.getElem?_set_ne (by omega), h m (by omega), List.getElem?_eq_getElem (by omega)]

/-- a row is written -/
theorem l_put {W w w' : World} {S : List Own} {Φ : PW} [Stable Φ] {g n cap : Nat} {cs : List Value} {l : List LineD} (cx : Ctx W w (bufL (some ⟨g, 0, none⟩) n cap cs :: S) (fun M w => Φ M w ∧ Elems M w cs l)) {i : Nat} (hi : i < l.length) {x : LineD} {p : Option Addr} {c : Nat}
    (hx : ∀ M w, Φ M w → Gv.rep M w (x.cells p c) x) (e : w' = w.setCells g (i * 7) (x.cells p c)) :
    ∃ cs', cs'.length = cs.length ∧ Ctx W w' (bufL (some ⟨g, 0, none⟩) n cap cs' :: S) (fun M w => Φ M w ∧ Elems M w cs' (l.set i x)) := by
  have hl := lcells_len cx.phi.2
  have h := cx.bufPuts 0 rfl rfl (by omega) (by simp only [List.length_cons, List.length_nil]; omega) e
  exact ⟨_, setL_len _ _ _, h.weak fun M w h => ⟨h.1, h.2.setAt i hi (hx M w h.1)⟩⟩

/-- a cell of a row is written -/
theorem l_cell {W w w' : World} {S : List Own} {Φ : PW} [Stable Φ] {g n cap : Nat} {cs : List Value} {l : List LineD} (cx : Ctx W w (bufL (some ⟨g, 0, none⟩) n cap cs :: S) (fun M w => Φ M w ∧ Elems M w cs l)) {i : Nat} (hi : i < l.length) (x : LineD) {k : Nat} {v : Value}
    (hk : k < 7) (hr : x.row = l[i].row) (hx : ∀ p c, (l[i].cells p c).set k v = x.cells p c) (hin : l[i].In → x.In) (e : w' = w.setCell ⟨g, i * 7 + k, none⟩ v) :
    ∃ cs', cs'.length = cs.length ∧ Ctx W w' (bufL (some ⟨g, 0, none⟩) n cap cs' :: S) (fun M w => Φ M w ∧ Elems M w cs' (l.set i x)) := by
  have hl := lcells_len cx.phi.2
  obtain ⟨p, c, hp, h1, h2, h3, _⟩ := lrow cx.phi.2 hi
  have h := cx.bufPuts 0 rfl rfl (vs := [v]) (o := i * 7 + k) (by omega) (by simp only [List.length_cons, List.length_nil]; omega) e
  have hrows := rows_of (vs := l[i].cells p c) hp
  rw [setL_cell (l[i].cells p c) k cs (i * 7) v hk hrows, hx p c] at h
  refine ⟨_, setL_len _ _ _, h.weak fun M w h => ⟨h.1, h.2.setAt i hi (rep_line (by rw [hr]; exact h1) h2 (hin h3) ?_)⟩⟩
  obtain ⟨p', c', hp', _, _, _, hs⟩ := lrow h.2 hi
  rw [hp] at hp'
  simp only [LineD.cells, List.cons.injEq, Value.slice.injEq] at hp'
  rw [hr, hp'.2.2.2.1.1]
  exact hs

end Go.Proofs.Ytnapfhbibikbiaa
end

/-
  DifferenceLines, walked.
-/
section
set_option linter.unusedVariables false
set_option linter.unusedSimpArgs false
namespace Go.Proofs.Ytnapfhbibikbiaa
open Go.Vc


theorem sl_take {α : Type} [Gv α] {M : List Nat} {w : World} {p : Option Addr} {l : List α} (h : Sl M w p l) (n : Nat) : Sl M w p (l.take n) := fun j hj => by
  rw [List.length_take] at hj
  obtain ⟨b, o, cs, h1, h2, h3, h4⟩ := h j (by omega)
  exact ⟨b, o, cs, h1, h2, h3, by rw [List.getElem_take]; exact h4⟩

theorem line_chk (no batch mark replace : Int) (i : Nat) {x : DeltaD} (hn : x.n ≠ 0) (h0 : 0 ≤ no) (h1 : no ≤ 1099511627776) (hi : i ≤ 1000000) :
    (decide ((lineP no batch mark replace i x).no ≠ no + i) || decide ((lineP no batch mark replace i x).batch ≠ batch) || decide ((lineP no batch mark replace i x).n = 0) || decide ((lineP no batch mark replace i x).cause = 2) != decide (0 < replace) || decide (replace ≤ 0) && decide ((lineP no batch mark replace i x).cause = 1) != decide ((lineP no batch mark replace i x).time ≤ mark)) = false := by
  have e1 : (lineP no batch mark replace i x).no = no + i := w64_id (by unfold I64; omega)
  have e2 : (lineP no batch mark replace i x).batch = batch := rfl
  have e3 : (lineP no batch mark replace i x).n = x.n := rfl
  have e4 : (lineP no batch mark replace i x).time = x.time := rfl
  rw [e1, e2, e3, e4, decide_eq_false hn, decide_eq_false (fun h => h rfl), decide_eq_false (fun h => h rfl)]
  rcases cause_cases no batch mark replace i x with ⟨h2, h3, _⟩ | ⟨h2, h4, h3, _⟩ | ⟨h2, h4, h3, _⟩
  · rw [h3, decide_eq_true h2, decide_eq_false (show ¬replace ≤ 0 by omega)]; rfl
  · rw [h3, decide_eq_false h2, decide_eq_false (show ¬x.time ≤ mark by omega)]; cases decide (replace ≤ 0) <;> rfl
  · rw [h3, decide_eq_false h2, decide_eq_true (show x.time ≤ mark by omega)]; cases decide (replace ≤ 0) <;> rfl

theorem Linesl_in {Φ : PW} [Stable Φ] (q : Option Addr) (cap : Nat) (l : List LineD) (v : Bool) (hv : leastP l = v) (hΨ : ∀ M w, Φ M w → Sl M w q l) (hlen : l.length ≤ 1000000) :
    GivesIn Φ Try.prog F.difference_Least #[.slice q l.length cap] (.bool v) := by rw [← hv]; exact Least_in q cap l hΨ hlen

set_option maxHeartbeats 4000000 in
theorem LinesLaw_in {Φ : PW} [Stable Φ] (p : Option Addr) (cap : Nat) (d : List DeltaD) (no batch mark replace atx : Int) (hΦ : ∀ M w, Φ M w → Sl M w p d) (hlen : d.length ≤ 9223372036854775807) (hb : I64 batch) (hrI : I64 replace) :
    GivesIn Φ Try.prog F.erratalaw42_DifferenceLines #[.slice p d.length cap, .int .i64 no, .int .i64 batch, .int .i64 mark, .int .i64 replace, .int .i64 atx] (.bool true) := by
  refine gives_in (Berratalaw42_DifferenceLines_run p d.length cap no batch mark replace atx) fun W R => ?_
  refine fun w G cx => small_g.use cx fun w cx => ⟨true, rfl, R, Φ, inferInstance, cx, fun w G cx => (Right42_in p cap d 50 hΦ hlen).use cx fun w cx => ⟨_, rfl, R, Φ, inferInstance, cx, Br.intro (fun hr => fun w G cx => ⟨rfl, cx.left⟩) (fun hr => ?_)⟩⟩
  obtain ⟨hl50, hrow12⟩ := right42 (by simpa only [Bool.not_eq_false'] using hr)
  have hrow : ∀ x ∈ d, x.row.length ≤ 1000000 := fun x hx => Nat.le_trans (hrow12 x hx) (by decide)
  clear cx hr hlen
  refine Br.intro (fun _ => fun w G cx => ⟨rfl, cx.left⟩) (fun hn => Br.intro (fun _ => fun w G cx => ⟨rfl, cx.left⟩) (fun hn2 => ?_))
  have hn := of_decide_eq_false hn
  have hn2 := of_decide_eq_false hn2
  obtain ⟨c, hc, hnorm, hcl, hcr⟩ : ∃ c, consP d = c ∧ Norm c ∧ c.length ≤ 50 ∧ ∀ x ∈ c, x.row.length ≤ 1000000 := ⟨_, rfl, (consP_norm d).1, Nat.le_trans (consP_len d) (by omega), fun x hx => consP_row (P := fun r => r.length ≤ 1000000) hrow x hx⟩
  obtain ⟨L, hL⟩ : ∃ L, linesC no batch mark replace c = L := ⟨_, rfl⟩
  have hLp : linesP no batch mark replace d = L := by unfold linesP; rw [hc, hL]
  have hLl : L.length = c.length := by rw [← hL, linesC_len]
  have hLleast : leastP L = true := by rw [← hL]; exact lines_least _ _ _ _ hnorm
  have hLnet : netP L = c := by rw [← hLp, net_lines, hc]
  have hLat : ∀ {i : Nat} (h : i < L.length), L[i] = lineP no batch mark replace i (c[i]'(by omega)) := fun {i} h => by subst hL; exact linesC_at _ _ _ _ _ (by omega)
  have hLrow : ∀ x ∈ L, x.row.length ≤ 1000000 := fun x hx => by
    obtain ⟨i, hi, rfl⟩ := List.getElem_of_mem hx
    rw [hLat hi]
    exact hcr _ (List.getElem_mem _)
  refine fun w G cx => (Lines_sl p cap d no batch mark replace hΦ hb hrI (by omega) hrow).use cx fun lp lc w h1 h2 cx => ?_
  rw [hLp] at h1 cx ⊢
  have hst1 : Stable (fun M w => Φ M w ∧ Sl M w lp L) := inferInstance
  refine ⟨lp, _, lc, rfl, R, fun M w => Φ M w ∧ Sl M w lp L, hst1, cx, fun w G cx => (Linesl_in (Φ := fun M w => Φ M w ∧ Sl M w lp L) lp lc L true hLleast (fun M w h => h.2) (by omega)).use cx fun w cx => ⟨true, rfl, R, _, hst1, cx, Br.intro (fun h => by cases h) (fun _ => fun w G cx => ?_)⟩⟩
  refine (Net_sl (Φ := fun M w => Φ M w ∧ Sl M w lp L) lp lc L (fun M w h => h.2) (by omega) hLrow).use cx fun np nc w h3 h4 cx => ?_
  rw [hLnet] at h3 cx ⊢
  have hst2 : Stable (fun M w => (Φ M w ∧ Sl M w lp L) ∧ Sl M w np c) := inferInstance
  have hsame := Same_in (Φ := fun M w => (Φ M w ∧ Sl M w lp L) ∧ Sl M w np c) np nc c p cap d (fun M w h => h.2) (fun M w h => hΦ M w h.1.1) (by omega) (by omega) hcr hrow
  rw [decide_eq_true (show consP c = consP d by rw [consP_self hnorm, hc])] at hsame
  refine ⟨np, _, nc, rfl, R, _, hst2, cx, fun w G cx => hsame.use cx fun w cx => ?_⟩
  obtain ⟨g, o, cs, hq, cx⟩ := cx.pin cx.phi.1.2
  have hcs : ∀ j, (hj : j < L.length) → ∃ p c, cs.getD j [] = L[j].cells p c ∧ L[j].row.length ≤ c ∧ c ≤ maxLen ∧ L[j].In := fun j hj => pin_line cx.phi.2 hj
  refine ⟨true, rfl, R, fun M w => (Φ M w ∧ Sl M w lp L) ∧ Pin g o cs L M w, inferInstance, cx.weak fun M w h => ⟨h.1.1, h.2⟩, Br.intro (fun h => by cases h) (fun _ => ?_)⟩
  clear cx hsame hst1 hst2
  refine exI_mk (fun iI R' Φ' k => ∃ i : Nat, iI = i ∧ i ≤ L.length ∧ R' = R ∧ Φ' = (fun M w => (Φ M w ∧ Sl M w lp L) ∧ Pin g o cs L M w) ∧ k = L.length - i) ⟨⟨R, fun M w => (Φ M w ∧ Sl M w lp L) ∧ Pin g o cs L M w, _, inferInstance, fun w G cx => cx, 0, rfl, Nat.zero_le _, rfl, rfl, rfl⟩, ?_⟩
  rintro iI R1 Φ1 k _ ⟨i, rfl, hi, rfl, rfl, rfl⟩
  refine Br.intro (fun hlt => ?_) (fun hge => fun w G cx => ?_)
  · have hlt := of_decide_eq_true hlt
    have hlt : i < L.length := by omega
    obtain ⟨r, rc, he, f1, f2, f3⟩ := hcs i hlt
    refine ⟨by omega, ptrK_intro g o (hq (by omega)) fun w G cx => ⟨L[i].no, L[i].batch, L[i].time, r, L[i].row.length, rc, L[i].n, L[i].cause, L[i].why, by rw [Int.toNat_natCast]; exact pinl_rowAt cx.phi.2 hlt he, fun _ w G cx => ⟨by unfold I64; omega, Br.intro (fun h => ?_) (fun _ => ⟨by unfold I64; omega, R1, _, L.length - (i + 1), inferInstance, fun w G cx => cx, ⟨i + 1, by omega, hlt, rfl, rfl, rfl⟩, by omega⟩)⟩⟩⟩
    have := line_chk no batch mark replace i (x := c[i]) (hnorm.nz _ (List.getElem_mem _)) (by omega) (by omega) (by omega)
    rw [← hLat hlt] at this
    rw [this] at h
    cases h
  clear hi hcs hq
  refine Br.intro (fun _ => fun w G cx => ⟨rfl, (cx.weak fun M w h => h.1.1).left⟩) (fun hat => ?_)
  simp only [Bool.or_eq_false_iff, decide_eq_false_iff_not] at hat
  obtain ⟨a, rfl⟩ : ∃ a : Nat, atx = a := ⟨atx.toNat, by omega⟩
  have ha : a < L.length := by omega
  have ha1 : ((a : Int) + 1).toNat = a + 1 := by omega
  clear cx
  refine ⟨[], fun _ _ => True, inferInstance, fun w G cx => (cx.weak fun _ _ _ => trivial).right, by unfold I64; omega, by omega, by omega, fun k => ⟨fun w G cx => (cx.weak fun _ _ _ => trivial).right, fun w G cx => ?_⟩⟩
  have ht1 : (L.take (a + 1)).length = a + 1 := by rw [List.length_take]; omega
  have ht2 : (L.drop a).length = L.length - a := List.length_drop
  have hsub0 : ∀ {M : List Nat} {w : World}, Sl M w lp L → Sl M w (subPtr lp 7 0 lc) (L.take (a + 1)) := fun h => by
    have := addr_sub (α := LineD) h 0 h1
    rw [List.drop_zero] at this
    exact sl_take this _
  have hsub1 : ∀ {M : List Nat} {w : World}, Sl M w lp L → Sl M w (subPtr lp 7 a lc) (L.drop a) := fun h => addr_sub (α := LineD) h a h1
  have hstP : Stable (fun M w => (Φ M w ∧ Sl M w lp L) ∧ Pin g o cs L M w) := inferInstance
  obtain ⟨p1, cap1, w1, ds1, hrun1, cx1⟩ := Ctx.cloned (P := Try.prog) (ts := 25) (ty := 25) (kb := #[false, false]) (bytes := 72) (c2 := lc) (l := L.take (a + 1)) (q := subPtr lp 7 0 lc) cx (by kernel_rfl) line_one (fun M w h => hsub0 h.1.2) (by omega) (by omega)
  rw [ht1] at hrun1 cx1
  rw [ha1, Int.toNat_natCast]
  have hst3 : Stable (fun M w => ((Φ M w ∧ Sl M w lp L) ∧ Pin g o cs L M w) ∧ Elems M w ds1 (L.take (a + 1))) := inferInstance
  refine ⟨p1, _, cap1, w1, hrun1, bufL p1 (a + 1) cap1 ds1 :: R1, _, hst3, cx1, fun w G cx => (cx.weak fun _ _ _ => trivial).right, fun w G cx => ?_⟩
  have happ := Ctx.appSl (P := Try.prog) (ts := 25) (ty := 25) (kb := #[false, false]) (bytes := 72) (c2 := lc - a) (l := L.drop a) (q := subPtr lp 7 a lc) cx (by kernel_rfl) line_one (fun M w h => hsub1 h.1.1.2) (by omega) (by omega) (by omega)
  rw [ht2] at happ
  obtain ⟨p2, cap2, w2, ds2, hrun2, _, cx2⟩ := happ
  have cx2' := cx2.weak (Ψ := fun M w => ((Φ M w ∧ Sl M w lp L) ∧ Pin g o cs L M w) ∧ Elems M w (ds1 ++ ds2) (L.take (a + 1) ++ L.drop a)) fun M w h => ⟨h.1.1, h.1.2.append h.2⟩
  obtain ⟨cx3, hs3, _⟩ := Ctx.freeze (α := LineD) cx2'.fst cx2'.phi.2
  clear cx cx1 cx2 cx2' hrun1
  obtain ⟨tw, htw⟩ : ∃ tw, L.take (a + 1) ++ L.drop a = tw := ⟨_, rfl⟩
  have htwl : tw.length = a + 1 + (L.length - a) := by rw [← htw, List.length_append, ht1, ht2]
  have htwb : leastP tw = false := by rw [← htw]; exact twice_bad ha
  rw [htw] at hs3
  have hst4 : Stable (fun M w => (Φ M w ∧ Sl M w lp L) ∧ Sl M w p2 tw) := inferInstance
  refine ⟨p2, _, cap2, w2, hrun2, R1, fun M w => (Φ M w ∧ Sl M w lp L) ∧ Sl M w p2 tw, hst4, (cx3.add hs3).weak fun M w h => ⟨h.1.1, h.2⟩, fun k w G cx => ?_⟩
  obtain ⟨p3, cap3, w3, ds3, hrun3, cx4⟩ := Ctx.cloned (P := Try.prog) (ts := 25) (ty := 25) (kb := #[false, false]) (bytes := 72) (c2 := lc) (l := L) (q := lp) cx (by kernel_rfl) line_one (fun M w h => h.1.2) (by omega) (by omega)
  have hd3 : ds3.length = L.length * 7 := lcells_len cx4.phi.2
  obtain ⟨g3, rfl⟩ := l_ptr cx4 (by omega)
  have hst5 : Stable (fun M w => ((Φ M w ∧ Sl M w lp L) ∧ Sl M w p2 tw) ∧ Elems M w ds3 L) := inferInstance
  clear cx cx3 hs3
  refine ⟨_, _, cap3, w3, hrun3, bufL (some ⟨g3, 0, none⟩) L.length cap3 ds3 :: R1, _, hst5, cx4, by omega, ptrK_intro g3 0 rfl fun w G cx => ⟨by rw [Nat.zero_add]; exact l_can cx (by omega), fun w' hw' => ?_⟩⟩
  rw [Nat.zero_add] at hw'
  obtain ⟨ds3', _, cx5⟩ := l_cell (l := L) (i := a) cx ha { L[a] with n := 0 } (k := 4) (by omega) rfl (fun _ _ => rfl) (fun h => ⟨h.no, h.batch, h.time, by unfold I64; dsimp only; omega, h.cause, h.why⟩) hw'
  clear cx cx4
  obtain ⟨em, hem⟩ : ∃ em, L.set a { L[a] with n := 0 } = em := ⟨_, rfl⟩
  have heml : em.length = L.length := by rw [← hem, List.length_set]
  have hemb : leastP em = false := by rw [← hem]; exact empty_bad ha
  rw [hem, ← heml] at cx5
  obtain ⟨cx6, hs6, _⟩ := Ctx.freeze (α := LineD) cx5.fst cx5.phi.2
  have hst6 : Stable (fun M w => ((Φ M w ∧ Sl M w lp L) ∧ Sl M w p2 tw) ∧ Sl M w (some ⟨g3, 0, none⟩) em) := inferInstance
  refine ⟨R1, fun M w => ((Φ M w ∧ Sl M w lp L) ∧ Sl M w p2 tw) ∧ Sl M w (some ⟨g3, 0, none⟩) em, hst6, cx6.add hs6, fun w G cx => ?_⟩
  clear cx5 cx6 hs6
  have hc1 := Linesl_in (Φ := fun M w => ((Φ M w ∧ Sl M w lp L) ∧ Sl M w p2 tw) ∧ Sl M w (some ⟨g3, 0, none⟩) em) p2 cap2 tw false htwb (fun M w h => h.1.2) (by omega)
  rw [htwl] at hc1
  have hc2 := Linesl_in (Φ := fun M w => ((Φ M w ∧ Sl M w lp L) ∧ Sl M w p2 tw) ∧ Sl M w (some ⟨g3, 0, none⟩) em) (some ⟨g3, 0, none⟩) cap3 em false hemb (fun M w h => h.2) (by omega)
  rw [heml] at hc2
  refine hc1.use cx fun w cx => ⟨false, rfl, R1, _, hst6, cx, Br.intro (fun h => by cases h) (fun _ => fun w G cx => hc2.use cx fun w cx => ⟨false, rfl, R1, fun M w => Φ M w ∧ Sl M w lp L, inferInstance, cx.weak fun M w h => h.1.1, Br.intro (fun h => by cases h) (fun _ => ⟨by unfold I64; omega, Br.intro (fun hlt => ?_) (fun _ => fun w G cx => ⟨rfl, cx.fst.left⟩)⟩)⟩)⟩
  clear cx hc1 hc2 hst3 hst4 hst5 hst6 hstP
  have hlt := of_decide_eq_true hlt
  have hb2 : a + 1 < L.length := by omega
  intro k w G cx
  obtain ⟨p4, cap4, w4, ds4, hrun4, cx7⟩ := Ctx.cloned (P := Try.prog) (ts := 25) (ty := 25) (kb := #[false, false]) (bytes := 72) (c2 := lc) (l := L) (q := lp) cx (by kernel_rfl) line_one (fun M w h => h.2) (by omega) (by omega)
  have hd4 : ds4.length = L.length * 7 := lcells_len cx7.phi.2
  obtain ⟨g4, rfl⟩ := l_ptr cx7 (by omega)
  obtain ⟨px, kx, ex, x1, x2, x3, sx⟩ := lrow cx7.phi.2 ha
  obtain ⟨py, ky, ey, y1, y2, y3, sy⟩ := lrow cx7.phi.2 hb2
  obtain ⟨x, hx⟩ : ∃ x, L[a] = x := ⟨_, rfl⟩
  obtain ⟨y, hy⟩ : ∃ y, L[a + 1] = y := ⟨_, rfl⟩
  rw [hx] at ex x1 x3 sx
  rw [hy] at ey y1 y3 sy
  have cx8 := ((cx7.add sx).add sy).weak (Ψ := fun M w => ((Φ M w ∧ Sl M w px x.row) ∧ Sl M w py y.row) ∧ Elems M w ds4 L) fun M w h => ⟨⟨⟨h.1.1.1.1, h.1.2⟩, h.2⟩, h.1.1.2⟩
  have hst7 : Stable (fun M w => ((Φ M w ∧ Sl M w px x.row) ∧ Sl M w py y.row) ∧ Elems M w ds4 L) := inferInstance
  clear cx cx7 sx sy
  have rx : ∀ M w, (Φ M w ∧ Sl M w px x.row) ∧ Sl M w py y.row → Gv.rep M w (x.cells px kx) x := fun M w h => rep_line x1 x2 x3 h.1.2
  have ry : ∀ M w, (Φ M w ∧ Sl M w px x.row) ∧ Sl M w py y.row → Gv.rep M w (y.cells py ky) y := fun M w h => rep_line y1 y2 y3 h.2
  have hstQ : Stable (fun M w => (Φ M w ∧ Sl M w px x.row) ∧ Sl M w py y.row) := inferInstance
  refine ⟨_, _, cap4, w4, hrun4, bufL (some ⟨g4, 0, none⟩) L.length cap4 ds4 :: R1, _, hst7, cx8, [], fun _ _ => True, inferInstance, fun w G cx => (cx.weak fun _ _ _ => trivial).right, by unfold I64; omega, by unfold I64; omega, by omega, ptrK_intro g4 0 rfl ⟨by omega, ptrK_intro g4 0 rfl fun w G cx => ?_⟩⟩
  clear cx8
  simp only [Nat.zero_add]
  refine ⟨x.no, x.batch, x.time, px, x.row.length, kx, x.n, x.cause, x.why, l_at cx ex, fun w G cx => ⟨y.no, y.batch, y.time, py, y.row.length, ky, y.n, y.cause, y.why, l_at cx ey, by omega, ptrK_intro g4 0 rfl fun w G cx => ⟨by rw [Nat.zero_add]; exact l_can cx (by omega), fun w' hw' => ?_⟩⟩⟩
  rw [Nat.zero_add] at hw'
  obtain ⟨ds5, hd5, cx9⟩ := l_put (Φ := fun M w => (Φ M w ∧ Sl M w px x.row) ∧ Sl M w py y.row) cx ha ry hw'
  have hst8 : Stable (fun M w => ((Φ M w ∧ Sl M w px x.row) ∧ Sl M w py y.row) ∧ Elems M w ds5 (L.set a y)) := inferInstance
  refine ⟨bufL (some ⟨g4, 0, none⟩) L.length cap4 ds5 :: R1, _, hst8, cx9, fun w G cx => (cx.weak fun _ _ _ => trivial).right, by omega, ptrK_intro g4 0 rfl fun w G cx => ⟨by rw [Nat.zero_add]; exact l_can cx (by omega), fun w' hw' => ?_⟩⟩
  rw [Nat.zero_add] at hw'
  clear cx9
  obtain ⟨ds6, hd6, cx9⟩ := l_put (Φ := fun M w => (Φ M w ∧ Sl M w px x.row) ∧ Sl M w py y.row) cx (i := a + 1) (by rw [List.length_set]; exact hb2) rx hw'
  obtain ⟨t2, ht⟩ : ∃ t2, (L.set a y).set (a + 1) x = t2 := ⟨_, rfl⟩
  have htl : t2.length = L.length := by rw [← ht]; simp
  have hta : t2[a] = y := by
    subst ht
    rw [List.getElem_set_ne (by omega), List.getElem_set_self]
  have htb : t2[a + 1] = x := by
    subst ht
    rw [List.getElem_set_self]
  rw [ht] at cx9
  have hst9 : Stable (fun M w => ((Φ M w ∧ Sl M w px x.row) ∧ Sl M w py y.row) ∧ Elems M w ds6 t2) := inferInstance
  clear cx hw'
  refine ⟨bufL (some ⟨g4, 0, none⟩) L.length cap4 ds6 :: R1, _, hst9, cx9, fun w G cx => (cx.weak fun _ _ _ => trivial).right, [], fun _ _ => True, inferInstance, fun w G cx => (cx.weak fun _ _ _ => trivial).right, by unfold I64; omega, by unfold I64; omega, by omega, ptrK_intro g4 0 rfl ⟨by omega, ptrK_intro g4 0 rfl fun w G cx => ?_⟩⟩
  have hrd : ∀ {w : World} {G : List Own} (cx : Ctx W w (bufL (some ⟨g4, 0, none⟩) L.length cap4 ds6 :: R1 ++ G) (fun M w => ((Φ M w ∧ Sl M w px x.row) ∧ Sl M w py y.row) ∧ Elems M w ds6 t2)) {i : Nat} (hi : i < t2.length), w.cell? ⟨g4, i * 7, none⟩ = some (.int .i64 t2[i].no) := fun {w G} cx {i} hi => by
    obtain ⟨p, k, e, _⟩ := lrow cx.phi.2 hi
    exact l_at cx e 0 (by simp)
  clear cx9
  simp only [Nat.zero_add]
  refine ⟨y.no, by rw [← hta]; exact hrd cx _, fun w G cx => ⟨x.no, by rw [← htb]; exact hrd cx _, by omega, ptrK_intro g4 0 rfl fun w G cx => ⟨by rw [Nat.zero_add]; exact l_can cx (by omega), fun w' hw' => ?_⟩⟩⟩
  rw [Nat.zero_add] at hw'
  obtain ⟨ds7, hd7, cx9⟩ := l_cell (Φ := fun M w => (Φ M w ∧ Sl M w px x.row) ∧ Sl M w py y.row) (i := a) cx (by omega) { t2[a] with no := x.no } (k := 0) (by omega) rfl (fun _ _ => rfl) (fun h => ⟨x3.no, h.batch, h.time, h.n, h.cause, h.why⟩) hw'
  obtain ⟨t3, ht3⟩ : ∃ t3, t2.set a { t2[a] with no := x.no } = t3 := ⟨_, rfl⟩
  have ht3l : t3.length = L.length := by rw [← ht3, List.length_set, htl]
  have ht3b : t3[a + 1] = x := by subst ht3; rw [List.getElem_set_ne (by omega)]; exact htb
  have ht3a : t3[a] = { y with no := x.no } := by subst ht3; rw [List.getElem_set_self, hta]
  rw [ht3] at cx9
  have hst10 : Stable (fun M w => ((Φ M w ∧ Sl M w px x.row) ∧ Sl M w py y.row) ∧ Elems M w ds7 t3) := inferInstance
  clear cx hw' hrd
  refine ⟨bufL (some ⟨g4, 0, none⟩) L.length cap4 ds7 :: R1, _, hst10, cx9, fun w G cx => (cx.weak fun _ _ _ => trivial).right, by omega, ptrK_intro g4 0 rfl fun w G cx => ⟨by rw [Nat.zero_add]; exact l_can cx (by omega), fun w' hw' => ?_⟩⟩
  rw [Nat.zero_add] at hw'
  clear cx9
  obtain ⟨ds8, hd8, cx9⟩ := l_cell (Φ := fun M w => (Φ M w ∧ Sl M w px x.row) ∧ Sl M w py y.row) (i := a + 1) cx (by omega) { t3[a + 1] with no := y.no } (k := 0) (by omega) rfl (fun _ _ => rfl) (fun h => ⟨y3.no, h.batch, h.time, h.n, h.cause, h.why⟩) hw'
  obtain ⟨t4, ht4⟩ : ∃ t4, t3.set (a + 1) { t3[a + 1] with no := y.no } = t4 := ⟨_, rfl⟩
  have ht4l : t4.length = L.length := by rw [← ht4, List.length_set, ht3l]
  have ht4b : t4[a + 1] = { x with no := y.no } := by subst ht4; rw [List.getElem_set_self, ht3b]
  have ht4a : t4[a] = { y with no := x.no } := by subst ht4; rw [List.getElem_set_ne (by omega)]; exact ht3a
  have hbad : leastP t4 = false := turned_bad no batch mark replace hnorm (i := a) (by omega) (by omega) ht4a ht4b (by rw [← hy, hLat hb2]; exact ⟨rfl, rfl⟩) (by rw [← hx, hLat ha]; exact ⟨rfl, rfl⟩)
  rw [ht4, ← ht4l] at cx9
  obtain ⟨cxA, hsA, _⟩ := Ctx.freeze (α := LineD) cx9.fst cx9.phi.2
  have hst11 : Stable (fun M w => Φ M w ∧ Sl M w (some ⟨g4, 0, none⟩) t4) := inferInstance
  have hc3 := Linesl_in (Φ := fun M w => Φ M w ∧ Sl M w (some ⟨g4, 0, none⟩) t4) (some ⟨g4, 0, none⟩) cap4 t4 false hbad (fun M w h => h.2) (by omega)
  rw [ht4l] at hc3
  refine ⟨R1, _, hst11, (cxA.add hsA).weak fun M w h => ⟨h.1.1.1, h.2⟩, fun w G cx => (cx.weak fun _ _ _ => trivial).right, fun w G cx => hc3.use cx fun w cx => ⟨false, rfl, R1, Φ, inferInstance, cx.fst, Br.intro (fun h => by cases h) (fun _ => fun w G cx => ?_)⟩⟩
  exact ⟨trivial, cx.left⟩

end Go.Proofs.Ytnapfhbibikbiaa
end

section
set_option linter.unusedVariables false
set_option linter.unusedSimpArgs false
namespace Go.Proofs.Ytnapfhbibikbiaa
open Go.ChangeShapes Go.WideShapes Go.ChangeAt Go.RowKit Go.Vc

theorem df_own : ownKnob Try.prog.godebug = none := by kernel_rfl
theorem df_laid : laidOutB Try.prog = true := by kernel_rfl

theorem wf_I64 {x : Int} (h : (Lit.int .i64 x).wf = true) : I64 x := by
  simp [Lit.wf, IntKind.min, IntKind.max, IntKind.signed, IntKind.bits] at h
  exact h

theorem trodAll_six {H : Type} {enc : TypeId × Value → H} {P : Program} {w : World} {base : Nat} {spare : Nat → Bool} {held : Bool} {t t1 t2 t3 t4 t5 : TypeId} {args : Array Value} {ds : List (DataW H)} {ps : List MemPlace} (h : DataW.TrodAll enc P w base spare held [t, t1, t2, t3, t4, t5] args.toList ds ps) :
    ∃ v v1 v2 v3 v4 v5 d d1 d2 d3 d4 d5 p p1 p2 p3 p4 p5, args = #[v, v1, v2, v3, v4, v5] ∧ ds = [d, d1, d2, d3, d4, d5] ∧ ps = p ++ p1 ++ p2 ++ p3 ++ p4 ++ p5 ∧ DataW.Trod enc P w base spare held t v d p ∧ DataW.Trod enc P w base spare held t1 v1 d1 p1 ∧ DataW.Trod enc P w base spare held t2 v2 d2 p2 ∧
      DataW.Trod enc P w base spare held t3 v3 d3 p3 ∧ DataW.Trod enc P w base spare held t4 v4 d4 p4 ∧ DataW.Trod enc P w base spare held t5 v5 d5 p5 := by
  obtain ⟨v, vs, d, ds, p, q, hargs, rfl, rfl, h0, h⟩ := trodAll_cons h
  obtain ⟨v1, vs1, d1, ds1, p1, q1, rfl, rfl, rfl, h1, h⟩ := trodAll_cons h
  obtain ⟨v2, vs2, d2, ds2, p2, q2, rfl, rfl, rfl, h2, h⟩ := trodAll_cons h
  obtain ⟨v3, vs3, d3, ds3, p3, q3, rfl, rfl, rfl, h3, h⟩ := trodAll_cons h
  obtain ⟨v4, vs4, d4, ds4, p4, q4, rfl, rfl, rfl, h4, h⟩ := trodAll_cons h
  obtain ⟨v5, vs5, d5, ds5, p5, q5, rfl, rfl, rfl, h5, h⟩ := trodAll_cons h
  obtain ⟨rfl, rfl, rfl⟩ := trodAll_nil h
  exact ⟨v, v1, v2, v3, v4, v5, d, d1, d2, d3, d4, d5, p, p1, p2, p3, p4, p5, by cases args; simp_all, rfl, by simp, h0, h1, h2, h3, h4, h5⟩

set_option maxRecDepth 100000 in
theorem lines_lifted (os : Os) (started : os.Started) (H : Type) (enc : TypeId × Value → H) :
    ReturnsInHanded {} Try.checked os 3 .any (Rows.differenceLinesSpec.pre6 enc Try.prog Try.f3 Rows.differenceLinesRow.domain false) (Rows.differenceLinesSpec.post enc Try.prog Try.f3 false true false false) := by
  refine lawTrue (C := Try.checked) (tb := 4) df_own started (by kernel_rfl) Try.func3 df_laid rfl ?_ rfl Try.underlying4 (by kernel_rfl)
    (ChangeSpec.witness6 (enc := enc) (C := Try.checked) false ⟨#[], #[.slice none 0 0, .int .i64 0, .int .i64 0, .int .i64 0, .int .i64 0, .int .i64 0], []⟩ 8 (by kernel_rfl) (by kernel_rfl) (by kernel_rfl) (by kernel_rfl)) ?_
  · intro ds hd
    match ds, hd with
    | [_, _, _, _, _, _], _ => exact ⟨rfl, rfl, rfl⟩
  · intro W base args ds p hval0 hA0 _
    have hval : ∀ (j : Nat) t v, Try.f3.params[j]? = some t → args[j]? = some v → Value.okWide Try.prog W .any base t v := hval0
    have hA : DataW.TrodAll enc Try.prog W 0 (fun _ => true) true Try.f3.params.toList args.toList ds p := hA0
    rw [Try.params3] at hA hval
    obtain ⟨v0, v1, v2, v3, v4, v5, d0, d1, d2, d3, d4, d5, p0, p1, p2, p3, p4, p5, rfl, rfl, rfl, h0, h1, h2, h3, h4, h5⟩ := trodAll_six hA
    obtain ⟨lp, lcap, l, rfl, l1, l2, s1⟩ := open_sl (α := DeltaD) 12 Try.underlying22 (hval 0 22 v0 rfl rfl) (by kernel_rfl) h0
    obtain ⟨no, rfl, rfl, rfl, w1⟩ := open_int Try.underlying3 (hval 1 3 v1 rfl rfl) h1
    obtain ⟨batch, rfl, rfl, rfl, w2⟩ := open_int Try.underlying3 (hval 2 3 v2 rfl rfl) h2
    obtain ⟨mark, rfl, rfl, rfl, w3⟩ := open_int Try.underlying3 (hval 3 3 v3 rfl rfl) h3
    obtain ⟨replace, rfl, rfl, rfl, w4⟩ := open_int Try.underlying3 (hval 4 3 v4 rfl rfl) h4
    obtain ⟨atx, rfl, rfl, rfl, w5⟩ := open_int Try.underlying3 (hval 5 3 v5 rfl rfl) h5
    have hst1 := instStableSl lp l
    exact (LinesLaw_in (Φ := fun M w => Sl M w lp l) lp lcap l no batch mark replace atx (fun _ _ h => h) (len_max l1 l2) (wf_I64 w2) (wf_I64 w4)).law s1

theorem lines_holds : Rows.DifferenceLinesSaid :=
  OpenClaim.holds_of_wide 3 Try.f3 rfl rfl rfl rfl rfl rfl rfl ⟨rfl, rfl, rfl, rfl, rfl⟩ rfl rfl rfl rfl rfl (by kernel_rfl) Try.func3 (by kernel_rfl)
    (of_decide_eq_true (by kernel_rfl)) (by unfold Func.isWrapper; first | (rw [if_pos (by decide +kernel)]; kernel_rfl) | (rw [if_neg (by decide +kernel)]; exact ⟨rfl, rfl⟩))
    (fun os started H enc _ => lines_lifted os started H enc)

end Go.Proofs.Ytnapfhbibikbiaa
end

