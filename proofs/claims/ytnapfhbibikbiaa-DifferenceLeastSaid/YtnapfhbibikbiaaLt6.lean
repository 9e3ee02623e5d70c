/-
  For every input erratalaw42.DifferenceLeast returns true, does not panic, comes to an end, and leaves what came in as it was.
  Conditions: none beyond the given statement's own (DifferenceLeastSaid).
-/
import Derived.Test.YtnapfhbibikbiaaLt5
import Derived.Lib.Strings
import Derived.Lib.Walk
import Derived.Lib.AppendZeros
import Derived.Test.YtnapfhbibikbiaaRows

/-
  The walks of the comparisons of values, rows and deltas; of Clone.
-/
section
set_option linter.unusedVariables false
set_option linter.unusedSimpArgs false
namespace Go.Proofs.Ytnapfhbibikbiaa
open Go.Vc


set_option maxHeartbeats 1000000 in
set_option maxRecDepth 100000 in
theorem bytealg_CompareString (a b : ByteArray) (w : World) :
    Calls Try.prog 40 #[.string a, .string b] w fun e w' => e = .returned (.int .i64 (Lib.compareBytes a.data.toList b.data.toList)) ∧ w' = w := by
  go_enter Try.func40, Try.ntmps40
  go_wp2
  rw [run_callFunc_extern Try.func42 (by kernel_rfl) (by kernel_rfl) (by kernel_rfl) (e := Extern.BytealgCompare.compare) (by kernel_rfl), Lib.run_compareString]
  simp only [Result.andThen]
  rw [Oper.upon_value]
  go_wp2
  go_ret
  exact ⟨rfl, rfl⟩

set_option maxHeartbeats 1000000 in
theorem strings_Compare (a b : ByteArray) (w : World) :
    Calls Try.prog 38 #[.string a, .string b] w fun e w' => e = .returned (.int .i64 (Lib.compareBytes a.data.toList b.data.toList)) ∧ w' = w := by
  go_enter Try.func38, Try.ntmps38
  go_wp2_with (go_at_call 40; refine (bytealg_CompareString _ _ _).mono ?_; rintro e w' ⟨rfl, rfl⟩)
  go_ret
  exact ⟨rfl, rfl⟩

theorem sl_val {M : List Nat} {w : World} {b o : Nat} {l : List ValD} (h : Sl M w (some ⟨b, o, none⟩) l) {i : Nat} (hi : i < l.length) : RowAt w b (o + i * 3) [.int .i64 l[i].kind, .int .i64 l[i].num, .string l[i].text] := by
  obtain ⟨b', o', cs, e, _, h3, _, _, rfl, ⟨rfl, _⟩, _, _, rfl, ⟨rfl, _⟩, rfl, _⟩ := h i hi
  cases e
  exact h3

theorem sl_int {M : List Nat} {w : World} {b o : Nat} {l : List Int} (h : Sl M w (some ⟨b, o, none⟩) l) {i : Nat} (hi : i < l.length) : w.cell? ⟨b, o + i, none⟩ = some (.int .i64 l[i]) := by
  obtain ⟨b', o', cs, e, _, h3, rfl, _⟩ := h i hi
  cases e
  have := h3 0 (by simp)
  simpa [show (Gv.ty Int).size = 1 from rfl] using this

theorem isNaN_g (x : Int) : Gives Try.prog F.cmp_isNaN_int #[.int .i64 x] (.bool false) :=
  gives_of (Bcmp_isNaN_int_run x) fun W R Φ _ => fun w F c => ⟨by simp, c.left⟩

theorem cmp_g (x y : Int) : Gives Try.prog F.cmp_Compare_int #[.int .i64 x, .int .i64 y] (.int .i64 (cmpI x y)) := by
  refine gives_of (Bcmp_Compare_int_run x y) fun W R Φ _ => ?_
  refine fun w F c => (isNaN_g _).use c fun w c => ⟨_, rfl, _, _, inferInstance, c, fun w F c => (isNaN_g _).use c fun w c => ⟨_, rfl, _, _, inferInstance, c, Br.intro (fun h => by cases h) (fun _ => Br.intro (fun h => by cases h) (fun _ => Br.intro (fun h => fun w F c => ⟨?_, c.left⟩) (fun h => Br.intro (fun h2 => fun w F c => ⟨?_, c.left⟩) (fun h2 => fun w F c => ⟨?_, c.left⟩))))⟩⟩
  · unfold cmpI; rw [if_pos (by simpa using h)]
  · have h : ¬ x < y := by simpa using h
    unfold cmpI; rw [if_neg h, if_pos (by simpa using h2)]
  · have h : ¬ x < y := by simpa using h
    have h2 : ¬ y < x := by simpa using h2
    unfold cmpI; rw [if_neg h, if_neg h2]

theorem orI_drop (l : List Int) (i : Nat) (hi : i < l.length) : orI (l.drop i) = if l[i] ≠ 0 then l[i] else orI (l.drop (i + 1)) := by
  rw [List.drop_eq_getElem_cons hi]; rfl

theorem or_in {Φ : PW} [Stable Φ] (p : Option Addr) (cap : Nat) (l : List Int) (hΦ : ∀ M w, Φ M w → Sl M w p l) (hlen : l.length ≤ 1000000) :
    GivesIn Φ Try.prog F.cmp_Or_int #[.slice p l.length cap] (.int .i64 (orI l)) := by
  refine .there (fun M w h => (hΦ M w h).there) fun hth => ?_
  refine gives_in (Bcmp_Or_int_run p l.length cap) fun W R => ?_
  refine exI_mk (fun n R' Φ' k => ∃ i : Nat, n = i ∧ i ≤ l.length ∧ R' = R ∧ Φ' = Φ ∧ k = l.length - i ∧ orI l = orI (l.drop i)) ⟨⟨R, Φ, _, inferInstance, fun w F c => c, 0, rfl, Nat.zero_le _, rfl, rfl, rfl, rfl⟩, ?_⟩
  rintro n R1 Φ1 k _ ⟨i, rfl, hi, rfl, rfl, rfl, hor⟩
  refine Br.intro (fun hlt => ?_) (fun hge => fun w F cx => ⟨?_, cx.left⟩)
  · have hlt : i < l.length := by simpa using hlt
    obtain ⟨b, o, rfl⟩ := hth (by omega)
    rw [orI_drop l i hlt] at hor
    refine ⟨by omega, ptrK_intro b o rfl fun w F cx => ⟨_, sl_int (hΦ _ _ cx.phi) hlt, Br.intro (fun h => fun w F cx => ⟨?_, cx.left⟩) (fun h => ⟨by unfold I64; omega, R1, Φ1, l.length - (i + 1), inferInstance, fun w F c => c, ⟨i + 1, rfl, hlt, rfl, rfl, rfl, ?_⟩, by omega⟩)⟩⟩
    · have h : l[i] ≠ 0 := by simpa using h
      rw [hor, if_pos h]
    · have h : ¬ l[i] ≠ 0 := by simpa using h
      rw [hor, if_neg h]
  · have hge : i = l.length := Nat.le_antisymm hi (by simpa using hge)
    rw [hor, hge, List.drop_length]
    rfl

theorem I64_bd {x : Int} (h : -1 ≤ x ∧ x ≤ 1) : I64 x := by unfold I64; omega

theorem ints_elems {M : List Nat} {w : World} : ∀ (l : List Int), (∀ x ∈ l, I64 x) → Elems M w (l.map fun x => .int .i64 x) l := by
  intro l h
  refine ⟨by simp [show (Gv.ty Int).size = 1 from rfl], fun j hj => ?_⟩
  rw [show (Gv.ty Int).size = 1 from rfl, Nat.mul_one, rep_int]
  refine ⟨?_, h _ (List.getElem_mem _)⟩
  apply List.ext_getElem?
  intro i
  rcases i with _ | i
  · rw [List.getElem?_take_of_lt (by omega), List.getElem?_drop]; simp [hj]
  · simp; omega

theorem tcmp_g (x y : ByteArray) : Gives Try.prog F.strings_Compare #[.string x, .string y] (.int .i64 (cmpT x y)) :=
  Quiet.gives ⟨fun w => strings_Compare x y w⟩

/-- a made block of ints, handed to cmp.Or -/
theorem or_blk {W w : World} {S : List Own} {Φ : PW} [Stable Φ] {k : Nat} {t : TypeId} (l : List Int) (cap : Nat) (hl : ∀ x ∈ l, I64 x) (hlen : l.length ≤ 1000000) (c : Ctx W w (.blk k (l.map fun x => .int .i64 x) t :: S) Φ)
    {K : Ending → World → Prop} (hk : ∀ w', Ctx W w' S Φ → K (.returned (.int .i64 (orI l))) w') : Calls Try.prog F.cmp_Or_int #[.slice (some ⟨k, 0, none⟩) l.length cap] w K := by
  obtain ⟨c', hs⟩ := c.freezeBlk (ints_elems l hl)
  exact (or_in (Φ := fun M w => Φ M w ∧ Sl M w (some ⟨k, 0, none⟩) l) (some ⟨k, 0, none⟩) cap l (fun _ _ h => h.2) hlen).use (c'.add hs) fun w' c => hk w' c.fst

theorem cmpV_g (x y : ValD) : Gives Try.prog F.value_Compare #[x.v, y.v] (.int .i64 (cmpV x y)) := by
  refine gives_of (Bvalue_Compare_run x.kind x.num x.text y.kind y.num y.text) fun W R Φ _ => ?_
  refine fun _ _ => ⟨R, Φ, inferInstance, fun _ _ c => c, fun w F c => (cmp_g _ _).use c fun w c => ⟨_, rfl, R, Φ, inferInstance, c, fun _ _ c => c, fun w F c => (cmp_g _ _).use c fun w c => ⟨_, rfl, R, Φ, inferInstance, c, fun _ _ c => c, fun w F c => (tcmp_g _ _).use c fun w c => ⟨_, rfl, R, Φ, inferInstance, c, fun k w F c => ?_⟩⟩⟩⟩
  refine or_blk (cmpL x y) 3 (fun u hu => ?_) (by simp) c fun w c => ⟨_, rfl, R, Φ, inferInstance, c, fun w F c => ⟨rfl, c.left⟩⟩
  simp only [cmpL, List.mem_cons, List.not_mem_nil, or_false] at hu
  rcases hu with rfl | rfl | rfl
  · exact I64_bd (cmpI_cmp.bd _ _)
  · exact I64_bd (cmpI_cmp.bd _ _)
  · exact I64_bd (cmpT_cmp.bd _ _)

theorem CompareRows_in {Φ : PW} [Stable Φ] (p q : Option Addr) (cap cap2 : Nat) (l r : List ValD) (hΦ : ∀ M w, Φ M w → Sl M w p l) (hΨ : ∀ M w, Φ M w → Sl M w q r) (hlen : l.length ≤ 9223372036854775807) :
    GivesIn Φ Try.prog F.value_CompareRows #[.slice p l.length cap, .slice q r.length cap2] (.int .i64 (cmpR l r)) := by
  refine .there (fun M w h => (hΦ M w h).there) fun hth => .there (fun M w h => (hΨ M w h).there) fun hth2 => ?_
  refine gives_in (Bvalue_CompareRows_run p l.length cap q r.length cap2) fun W R => fun w0 F0 c0 => ?_
  refine GivesIn.use ?_ c0 fun w c => ⟨_, rfl, R, Φ, inferInstance, c, fun w F c => ⟨rfl, c.left⟩⟩
  refine gives_in (Bslices_CompareFunc_api_Value__api_Value_api_Value_api_Value_run p l.length cap q r.length cap2 34 #[]) fun W R => ?_
  refine exI_mk (fun n R' Φ' k => ∃ i : Nat, n = i ∧ i ≤ l.length ∧ i ≤ r.length ∧ R' = R ∧ Φ' = Φ ∧ k = l.length - i ∧ cmpR l r = cmpR (l.drop i) (r.drop i)) ⟨⟨R, Φ, _, inferInstance, fun w F c => c, 0, rfl, Nat.zero_le _, Nat.zero_le _, rfl, rfl, rfl, rfl⟩, ?_⟩
  rintro n R1 Φ1 k _ ⟨i, rfl, hi, hr, rfl, rfl, rfl, hcm⟩
  refine Br.intro (fun hlt => ?_) (fun hge => ?_)
  · have hlt : i < l.length := by simpa using hlt
    obtain ⟨b, o, rfl⟩ := hth (by omega)
    refine ⟨by omega, ptrK_intro b o rfl fun w F cx => ⟨_, _, _, sl_val (hΦ _ _ cx.phi) hlt, fun _ => Br.intro (fun h => fun w F cx => ⟨?_, cx.left⟩) (fun h => ?_)⟩⟩
    · have h : r.length ≤ i := by simpa using h
      rw [hcm, cmpR_left hlt h]
    · have h : i < r.length := by simpa using h
      obtain ⟨b2, o2, rfl⟩ := hth2 (by omega)
      rw [cmpR_both hlt h] at hcm
      refine ⟨by omega, ptrK_intro b2 o2 rfl fun w F cx => ⟨_, _, _, sl_val (hΨ _ _ cx.phi) h, fun _ w F cx => ⟨by kernel_rfl, (cmpV_g l[i] r[i]).use cx fun w cx => ⟨_, rfl, R1, Φ1, inferInstance, cx, Br.intro (fun hn => fun w F cx => ⟨?_, cx.left⟩) (fun hn => ⟨by unfold I64; omega, R1, Φ1, l.length - (i + 1), inferInstance, fun w F c => c, ⟨i + 1, rfl, hlt, h, rfl, rfl, rfl, ?_⟩, by omega⟩)⟩⟩⟩⟩
      · have hn : cmpV l[i] r[i] ≠ 0 := by simpa using hn
        rw [hcm, if_pos hn]
      · have hn : ¬ cmpV l[i] r[i] ≠ 0 := by simpa using hn
        rw [hcm, if_neg hn]
  · have hge : i = l.length := Nat.le_antisymm hi (by simpa using hge)
    subst hge
    refine Br.intro (fun h => fun w F cx => ⟨?_, cx.left⟩) (fun h => fun w F cx => ⟨?_, cx.left⟩)
    · have h : l.length < r.length := by simpa using h
      rw [hcm, List.drop_length, List.drop_eq_getElem_cons h]; rfl
    · have h : ¬ l.length < r.length := by simpa using h
      rw [hcm, List.drop_length, List.drop_of_length_le (by omega)]; rfl

/-! ### deltas -/
theorem compareD_in {Φ : PW} [Stable Φ] (x y : DeltaD) (p q : Option Addr) (cap cap2 : Nat) (hΦ : ∀ M w, Φ M w → Sl M w p x.row) (hΨ : ∀ M w, Φ M w → Sl M w q y.row) (hlen : x.row.length ≤ 9223372036854775807) :
    GivesIn Φ Try.prog F.delta_compare #[x.v p cap, y.v q cap2] (.int .i64 (cmpD x y)) := by
  refine gives_in (Bdelta_compare_run x.time p x.row.length cap x.n y.time q y.row.length cap2 y.n) fun W R => ?_
  refine fun _ _ => ⟨R, Φ, inferInstance, fun _ _ c => c, fun w F c => (cmp_g _ _).use c fun w c => ⟨_, rfl, R, Φ, inferInstance, c, fun _ _ c => c, fun w F c => (CompareRows_in p q cap cap2 x.row y.row hΦ hΨ hlen).use c fun w c => ⟨_, rfl, R, Φ, inferInstance, c, fun k w F c => ?_⟩⟩⟩
  refine or_blk (cmpDL x y) 2 (fun u hu => ?_) (by simp) c fun w c => ⟨_, rfl, R, Φ, inferInstance, c, fun w F c => ⟨rfl, c.left⟩⟩
  simp only [cmpDL, List.mem_cons, List.not_mem_nil, or_false] at hu
  rcases hu with rfl | rfl
  · exact I64_bd (cmpI_cmp.bd _ _)
  · exact I64_bd (cmpR_cmp.bd _ _)

end Go.Proofs.Ytnapfhbibikbiaa
end

/-
  The walks of Clone; what right rows are.
-/
section
set_option linter.unusedVariables false
set_option linter.unusedSimpArgs false
namespace Go.Proofs.Ytnapfhbibikbiaa
open Go.Vc


theorem pin_delta {M : List Nat} {w : World} {b o : Nat} {cs : List (List Value)} {l : List DeltaD} (h : Pin b o cs l M w) {j : Nat} (hj : j < l.length) : ∃ p c, cs.getD j [] = l[j].cells p c ∧ l[j].row.length ≤ c ∧ c ≤ maxLen ∧ I64 l[j].time ∧ I64 l[j].n ∧ RowAt w b (o + j * 3) (l[j].cells p c) := by
  obtain ⟨_, h1, h2⟩ := h j hj
  obtain ⟨p, c, e, g1, g2, g3, g4, _⟩ := delta_cells h2
  exact ⟨p, c, e, g1, g2, g3, g4, by rw [e] at h1; exact h1⟩

theorem pin_row {M : List Nat} {w : World} {b o : Nat} {cs : List (List Value)} {l : List DeltaD} (h : Pin b o cs l M w) {j : Nat} (hj : j < l.length) {p : Option Addr} {c : Nat} (e : cs.getD j [] = l[j].cells p c) : Sl M w p l[j].row := by
  have := (h j hj).2.2
  rw [e] at this
  exact delta_row this

theorem pin_rowAt {M : List Nat} {w : World} {b o : Nat} {cs : List (List Value)} {l : List DeltaD} (h : Pin b o cs l M w) {j : Nat} (hj : j < l.length) {p : Option Addr} {c : Nat} (e : cs.getD j [] = l[j].cells p c) : RowAt w b (o + j * 3) (l[j].cells p c) := by
  have := (h j hj).2.1
  rw [e] at this
  exact this

/-- the pinned cells, for good -/
theorem in_cells {Φ : PW} {f : FuncId} {args : Array Value} {v : Value} {b o : Nat} {cs : List (List Value)} {l : List DeltaD} (hΦ : ∀ M w, Φ M w → Pin b o cs l M w)
    (h : (∀ j, (hj : j < l.length) → ∃ p c, cs.getD j [] = l[j].cells p c ∧ l[j].row.length ≤ c ∧ c ≤ maxLen ∧ I64 l[j].time ∧ I64 l[j].n) → GivesIn Φ Try.prog f args v) : GivesIn Φ Try.prog f args v :=
  ⟨fun W w S c => (h fun j hj => by obtain ⟨p, c, h1, h2, h3, h4, h5, _⟩ := pin_delta (hΦ _ _ c.phi) hj; exact ⟨p, c, h1, h2, h3, h4, h5⟩).go W w S c⟩

theorem len_max {n c : Nat} (h1 : n ≤ c) (h2 : c ≤ maxLen) : n ≤ 9223372036854775807 := Nat.le_trans h1 (Nat.le_trans h2 (by decide))

theorem val_one (M : List Nat) (w : World) (cs : List Value) (x : ValD) (h : Gv.rep M w cs x) : (cs.all fun u => oneC u) = true := by
  obtain ⟨_, _, rfl, ⟨rfl, _⟩, _, _, rfl, ⟨rfl, _⟩, rfl, _⟩ := h
  rfl

theorem CloneV_in {Φ : PW} [Stable Φ] (p : Option Addr) (cap : Nat) (l : List ValD) (hΦ : ∀ M w, Φ M w → Sl M w p l) (hlen : l.length < 100000000) :
    GivesNew Φ Try.prog F.slices_Clone_api_Value_api_Value #[.slice p l.length cap] l 48 := by
  refine .there (fun M w h => (hΦ M w h).there) fun hth => ?_
  refine gives_new (Bslices_Clone_api_Value_api_Value_run p l.length cap) fun W R => ?_
  refine Br.intro (fun hn => fun w F c => ?_) (fun hn => ?_)
  · have hl : l = [] := by
      cases l with
      | nil => rfl
      | cons => obtain ⟨b, o, e⟩ := hth (by simp); rw [e] at hn; cases hn
    subst hl
    exact ⟨none, 0, [], rfl, (c.left.buf0 48 3).add Elems.nil⟩
  · intro k w F c
    obtain ⟨p', cap', w', cs, hrun, c'⟩ := Ctx.cloned (P := Try.prog) (ts := 30) (ty := 30) (kb := #[false, false]) (bytes := 32) (c2 := cap) c (by kernel_rfl) val_one hΦ hlen (by omega)
    exact ⟨_, _, _, _, hrun, _, _, inferInstance, c', fun w F c => ⟨p', cap', cs, rfl, c.left⟩⟩

theorem CloneD_in {Φ : PW} [Stable Φ] (p : Option Addr) (cap : Nat) (l : List DeltaD) (hΦ : ∀ M w, Φ M w → Sl M w p l) (hlen : l.length < 100000000) :
    GivesNew Φ Try.prog F.slices_Clone_api_Delta_api_Delta #[.slice p l.length cap] l 38 := by
  refine .there (fun M w h => (hΦ M w h).there) fun hth => ?_
  refine gives_new (Bslices_Clone_api_Delta_api_Delta_run p l.length cap) fun W R => ?_
  refine Br.intro (fun hn => fun w F c => ?_) (fun hn => ?_)
  · have hl : l = [] := by
      cases l with
      | nil => rfl
      | cons => obtain ⟨b, o, e⟩ := hth (by simp); rw [e] at hn; cases hn
    subst hl
    exact ⟨none, 0, [], rfl, (c.left.buf0 38 3).add Elems.nil⟩
  · intro k w F c
    obtain ⟨p', cap', w', cs, hrun, c'⟩ := Ctx.cloned (P := Try.prog) (ts := 22) (ty := 22) (kb := #[false, false]) (bytes := 40) (c2 := cap) c (by kernel_rfl) delta_one hΦ hlen (by omega)
    exact ⟨_, _, _, _, hrun, _, _, inferInstance, c', fun w F c => ⟨p', cap', cs, rfl, c.left⟩⟩

/-! ### right rows -/
def rightV3 (x : ValD) : Bool := if x.kind = 0 then decide (x.text = ByteArray.mk #[]) else if x.kind = 1 then decide (x.num = 0) && decide ((x.text.size : Int) ≤ 200) else decide (x.kind = 2) && (decide (x.num = 0) || decide (x.num = 1)) && decide (x.text = ByteArray.mk #[])

theorem right3_g (x : ValD) : Gives Try.prog F.errataref03_Right #[x.v] (.bool (rightV3 x)) := by
  refine gives_of (Berrataref03_Right_run x.kind x.num x.text) fun W R Φ _ => fun _ => Br.intro (fun h => fun w G c => ⟨?_, c.left⟩) (fun h => Br.intro (fun h2 => fun w G c w G c => ⟨?_, c.left⟩) (fun h2 => fun w G c w G c => ⟨?_, c.left⟩))
  · unfold rightV3; rw [if_pos (of_decide_eq_true h)]
  · unfold rightV3; rw [if_neg (of_decide_eq_false h), if_pos (of_decide_eq_true h2)]
  · unfold rightV3; rw [if_neg (of_decide_eq_false h), if_neg (of_decide_eq_false h2)]

theorem All3_q {Φ : PW} [Stable Φ] (q : ValD → Bool) (hq : ∀ x, Gives Try.prog F.errataref03_Right #[x.v] (.bool (q x))) (p : Option Addr) (cap : Nat) (l : List ValD) (hΦ : ∀ M w, Φ M w → Sl M w p l) (hlen : l.length ≤ 9223372036854775807) : GivesIn Φ Try.prog F.errataref03_All #[.slice p l.length cap] (.bool (l.all q)) := by
  refine .there (fun M w h => (hΦ M w h).there) fun hth => ?_
  refine gives_in (Berrataref03_All_run p l.length cap) fun W R => ?_
  refine exI_mk (fun n R' Φ' k => ∃ i : Nat, n = i ∧ i ≤ l.length ∧ R' = R ∧ Φ' = Φ ∧ k = l.length - i ∧ l.all q = (l.drop i).all q) ⟨⟨R, Φ, _, inferInstance, fun w F c => c, 0, rfl, Nat.zero_le _, rfl, rfl, rfl, rfl⟩, ?_⟩
  rintro n R1 Φ1 k _ ⟨i, rfl, hi, rfl, rfl, rfl, hs⟩
  refine Br.intro (fun hlt => ?_) (fun hge => fun w F cx => ⟨?_, cx.left⟩)
  · have hlt : i < l.length := by simpa using hlt
    obtain ⟨b, o, rfl⟩ := hth (by omega)
    rw [List.drop_eq_getElem_cons hlt, List.all_cons] at hs
    refine ⟨by omega, ptrK_intro b o rfl fun w F cx => ⟨l[i].kind, l[i].num, l[i].text, by rw [Int.toNat_natCast]; exact sl_val (hΦ _ _ cx.phi) hlt, fun w F cx => (hq l[i]).use cx fun w cx => ⟨_, rfl, R1, Φ1, inferInstance, cx, Br.intro (fun h => fun w F cx => ⟨?_, cx.left⟩) (fun h => ⟨by unfold I64; omega, R1, Φ1, l.length - (i + 1), inferInstance, fun w F c => c, ⟨i + 1, rfl, hlt, rfl, rfl, rfl, ?_⟩, by omega⟩)⟩⟩⟩
    · rw [hs, show q l[i] = false by simpa using h, Bool.false_and]
    · rw [hs, show q l[i] = true by simpa using h, Bool.true_and]
  · have hge : i = l.length := Nat.le_antisymm hi (by simpa using hge)
    rw [hs, hge, List.drop_length]
    rfl

theorem All3_in {Φ : PW} [Stable Φ] (p : Option Addr) (cap : Nat) (l : List ValD) (hΦ : ∀ M w, Φ M w → Sl M w p l) (hlen : l.length ≤ 9223372036854775807) : GivesIn Φ Try.prog F.errataref03_All #[.slice p l.length cap] (.bool (l.all rightV3)) := All3_q rightV3 right3_g p cap l hΦ hlen

def rightR (l : List ValD) : Bool := decide ((l.length : Int) ≤ 12) && l.all rightV3

theorem RightRow3_in {Φ : PW} [Stable Φ] (p : Option Addr) (cap : Nat) (l : List ValD) (hΦ : ∀ M w, Φ M w → Sl M w p l) (hlen : l.length ≤ 9223372036854775807) : GivesIn Φ Try.prog F.errataref03_RightRow #[.slice p l.length cap] (.bool (rightR l)) := by
  have h1 := All3_in p cap l hΦ hlen
  unfold rightR
  generalize l.all rightV3 = c at h1
  refine gives_in (Berrataref03_RightRow_run p l.length cap) fun W R => Br.intro (fun h => fun w F cx => h1.use cx fun w cx => ⟨_, rfl, R, Φ, inferInstance, cx, fun w F cx => ⟨?_, cx.left⟩⟩) (fun h => fun w F cx => ⟨?_, cx.left⟩)
  · rw [h, Bool.true_and]
  · rw [h, Bool.false_and]

theorem Right42_pin {Φ : PW} [Stable Φ] (q : List ValD → Bool) (hq : ∀ (p : Option Addr) (cap : Nat) (l : List ValD), (∀ M w, Φ M w → Sl M w p l) → l.length ≤ 9223372036854775807 → GivesIn Φ Try.prog F.errataref03_RightRow #[.slice p l.length cap] (.bool (q l))) (p : Option Addr) (cap : Nat) (l : List DeltaD) (most : Int) (b o : Nat) (cs : List (List Value)) (hp : 0 < l.length → p = some ⟨b, o, none⟩) (hΦ : ∀ M w, Φ M w → Pin b o cs l M w) (hlen : l.length ≤ 9223372036854775807) :
    GivesIn Φ Try.prog F.errataref42_Right #[.slice p l.length cap, .int .i64 most] (.bool (decide ((l.length : Int) ≤ most) && l.all fun x => q x.row)) := by
  refine in_cells hΦ fun hcs => ?_
  refine gives_in (Berrataref42_Right_run p l.length cap most) fun W R => ?_
  refine exI_mk (fun n R' Φ' k => ∃ i : Nat, n = i ∧ i ≤ l.length ∧ R' = R ∧ Φ' = Φ ∧ k = l.length - i ∧ (l.all fun x => q x.row) = (l.drop i).all fun x => q x.row) ⟨⟨R, Φ, _, inferInstance, fun w F c => c, 0, rfl, Nat.zero_le _, rfl, rfl, rfl, rfl⟩, ?_⟩
  rintro n R1 Φ1 k _ ⟨i, rfl, hi, rfl, rfl, rfl, hs⟩
  refine fun w F cx => Br.intro (fun hlt => ?_) (fun hge => fun w F cx => ⟨?_, cx.left⟩)
  · simp only [Bool.and_eq_true, decide_eq_true_eq] at hlt
    have hlt : i < l.length := by omega
    obtain ⟨r, qc, he, g1, g2, _, _⟩ := hcs i hlt
    rw [List.drop_eq_getElem_cons hlt, List.all_cons] at hs
    refine ⟨by omega, ptrK_intro b o (hp (by omega)) fun w F cx => ⟨r, l[i].row.length, qc, ?_, fun w F cx => (hq r qc l[i].row (fun M w h => pin_row (hΦ M w h) hlt he) (len_max g1 g2)).use cx fun w cx => ⟨_, rfl, R1, Φ1, inferInstance, cx, Br.intro (fun h => fun w F cx => ⟨?_, cx.left⟩) (fun h => ⟨by unfold I64; omega, R1, Φ1, l.length - (i + 1), inferInstance, fun w F c => c, ⟨i + 1, rfl, hlt, rfl, rfl, rfl, ?_⟩, by omega⟩)⟩⟩⟩
    · rw [Int.toNat_natCast]
      have := pin_rowAt (hΦ _ _ cx.phi) hlt he 1 (by simp)
      simpa using this
    · rw [hs, show q l[i].row = false by simpa using h, Bool.false_and, Bool.and_false]
    · rw [hs, show q l[i].row = true by simpa using h, Bool.true_and]
  · simp only [Bool.and_eq_false_iff, decide_eq_false_iff_not] at hge
    by_cases hl : (l.length : Int) ≤ most
    · have hi : i = l.length := by omega
      rw [hs, hi, List.drop_length, decide_eq_true hl]
      rfl
    · rw [decide_eq_false hl, Bool.false_and]

theorem Right42_in {Φ : PW} [Stable Φ] (p : Option Addr) (cap : Nat) (l : List DeltaD) (most : Int) (hΦ : ∀ M w, Φ M w → Sl M w p l) (hlen : l.length ≤ 9223372036854775807) :
    GivesIn Φ Try.prog F.errataref42_Right #[.slice p l.length cap, .int .i64 most] (.bool (decide ((l.length : Int) ≤ most) && l.all fun x => rightR x.row)) :=
  .pinned hΦ fun b o cs hp => Right42_pin (Φ := fun M w => Φ M w ∧ Pin b o cs l M w) rightR (fun p cap l h hl => RightRow3_in p cap l h hl) p cap l most b o cs hp (fun _ _ h => h.2) hlen

theorem right42 {l : List DeltaD} {most : Int} (h : (decide ((l.length : Int) ≤ most) && l.all fun x => rightR x.row) = true) : (l.length : Int) ≤ most ∧ ∀ x ∈ l, x.row.length ≤ 12 := by
  rw [Bool.and_eq_true, decide_eq_true_eq, List.all_eq_true] at h
  refine ⟨h.1, fun x hx => ?_⟩
  have := h.2 x hx
  unfold rightR at this
  rw [Bool.and_eq_true, decide_eq_true_eq] at this
  omega

end Go.Proofs.Ytnapfhbibikbiaa
end

/-
  Consolidate, walked.
-/
section
set_option linter.unusedVariables false
set_option linter.unusedSimpArgs false
namespace Go.Proofs.Ytnapfhbibikbiaa
open Go.Vc


/-! ### one group, in plain Lean -/
theorem seg_sum {seg : List DeltaD} {k0 : Key} (h : ∀ x ∈ seg, x.key = k0) (k : Key) (hk : k ≠ k0) : sumK seg k = 0 := sumK_none fun x hx e => hk (by rw [← e, h x hx])

theorem Norm.snoc {c : List DeltaD} {x : DeltaD} (h : Norm c) (h1 : ∀ y ∈ c, cmpK y.key x.key < 0) (h2 : x.n ≠ 0) (h3 : I64 x.n) : Norm (c ++ [x]) := by
  refine ⟨List.pairwise_append.2 ⟨h.asc, List.pairwise_singleton _ _, fun y hy z hz => ?_⟩, fun y hy => ?_, fun y hy => ?_⟩
  · rw [List.mem_singleton.1 hz, cmpD_key]; exact h1 y hy
  · rcases List.mem_append.1 hy with hy | hy
    · exact h.nz y hy
    · rw [List.mem_singleton.1 hy]; exact h2
  · rcases List.mem_append.1 hy with hy | hy
    · exact h.i64 y hy
    · rw [List.mem_singleton.1 hy]; exact h3

/-- a group is put as one element, or left out -/
theorem find_group {A seg C : List DeltaD} {k0 : Key} {N : Int} (h : ∀ x ∈ seg, x.key = k0) (hN : N = findP seg k0) (k : Key) :
    (findP (A ++ (⟨k0.1, k0.2, N⟩ :: C)) k = findP (A ++ (seg ++ C)) k) ∧ (N = 0 → findP (A ++ C) k = findP (A ++ (seg ++ C)) k) := by
  have key : (((if k0 = k then N else 0) : Int) - sumK seg k) % 18446744073709551616 = 0 := by
    by_cases hk : k0 = k
    · subst hk
      rw [if_pos rfl, hN]
      exact w64_mod _
    · rw [if_neg hk, seg_sum h k (fun e => hk e.symm)]
      rfl
  have e1 : sumK (A ++ (⟨k0.1, k0.2, N⟩ :: C)) k = sumK A k + ((if k0 = k then N else 0) + sumK C k) := by rw [sumK_app]; rfl
  have e2 : sumK (A ++ (seg ++ C)) k = sumK A k + (sumK seg k + sumK C k) := by rw [sumK_app, sumK_app]
  refine ⟨?_, fun h0 => ?_⟩
  · unfold findP
    rw [e1, e2]
    exact w64_cong (by omega)
  · unfold findP
    rw [sumK_app, e2]
    refine w64_cong ?_
    rw [h0] at key
    have : ((if k0 = k then (0 : Int) else 0)) = 0 := by split <;> rfl
    omega

theorem find_snoc {seg : List DeltaD} {y : DeltaD} {k0 : Key} (hy : y.key = k0) : findP (seg ++ [y]) k0 = w64 (findP seg k0 + y.n) := by
  unfold findP
  rw [w64_l, sumK_app]
  simp only [sumK]
  rw [if_pos hy, Int.add_zero]

/-- where a slice of a sorted slice begins -/
theorem sub_at {g i k c : Nat} (h : k < c) : subPtr (some ⟨g, i * 3, none⟩) 3 k c = some ⟨g, (i + k) * 3, none⟩ := by
  unfold subPtr
  rw [if_neg (by omega), Option.map_some]
  congr 1
  unfold Addr.add
  split
  · rw [show k = 0 by omega, Nat.add_zero]
  · show Addr.mk g (i * 3 + k * 3) none = _
    rw [Nat.add_mul]

/-- what the outer loop knows -/
structure COuter (l : List DeltaD) (es outs : List DE) (i : Nat) : Prop where
  le : i ≤ es.length
  norm : Norm (outs.map DE.d)
  lt : ∀ x ∈ outs, ∀ y ∈ es.drop i, cmpK x.d.key y.d.key < 0
  find : ∀ k, findP (outs.map DE.d ++ (es.drop i).map DE.d) k = findP l k
  few : outs.length ≤ i

theorem COuter.step {l : List DeltaD} {es outs : List DE} {i : Nat} (h : COuter l es outs i) {X : DE} (hX : X ∈ es.drop i) {j : Nat} (hij : i + j ≤ es.length) (hj : 1 ≤ j) (hk : ∀ y ∈ (es.drop i).take j, y.d.key = X.d.key) {N : Int} (hN : N = findP (((es.drop i).take j).map DE.d) X.d.key)
    (hgt : ∀ y ∈ es.drop (i + j), cmpK X.d.key y.d.key < 0) : (N = 0 → COuter l es outs (i + j)) ∧ (N ≠ 0 → ∀ (p : Option Addr) (c : Nat), COuter l es (outs ++ [⟨⟨X.d.time, X.d.row, N⟩, p, c⟩]) (i + j)) := by
  have hdr : es.drop i = (es.drop i).take j ++ es.drop (i + j) := by rw [← List.drop_drop, List.take_append_drop]
  have hkm : ∀ x ∈ ((es.drop i).take j).map DE.d, x.key = X.d.key := fun x hx => by
    obtain ⟨y, hy, rfl⟩ := List.mem_map.1 hx
    exact hk y hy
  have hsub : ∀ y ∈ es.drop (i + j), y ∈ es.drop i := fun y hy => by rw [hdr]; exact List.mem_append_right _ hy
  have hf : ∀ k, findP (outs.map DE.d ++ (((es.drop i).take j).map DE.d ++ (es.drop (i + j)).map DE.d)) k = findP l k := fun k => by
    rw [← List.map_append, ← hdr]; exact h.find k
  refine ⟨fun h0 => ⟨hij, h.norm, fun x hx y hy => h.lt x hx y (hsub y hy), fun k => ?_, by have := h.few; omega⟩, fun h0 p c => ⟨hij, ?_, fun x hx y hy => ?_, fun k => ?_, by rw [List.length_append]; have := h.few; simp; omega⟩⟩
  · rw [← hf k]
    exact (find_group (A := outs.map DE.d) (C := (es.drop (i + j)).map DE.d) hkm hN k).2 h0
  · rw [List.map_append]
    refine Norm.snoc h.norm (fun y hy => ?_) h0 (by rw [hN]; exact w64_in _)
    obtain ⟨z, hz, rfl⟩ := List.mem_map.1 hy
    exact h.lt z hz X hX
  · rcases List.mem_append.1 hx with hx | hx
    · exact h.lt x hx y (hsub y hy)
    · rw [List.mem_singleton.1 hx]; exact hgt y hy
  · rw [← hf k, List.map_append, List.append_assoc]
    exact (find_group (A := outs.map DE.d) (C := (es.drop (i + j)).map DE.d) hkm hN k).1

theorem cmpFn_delta {Φ : PW} [Stable Φ] {es : List DE} (hrow : ∀ x ∈ es, x.d.row.length ≤ 1000000) : CmpFn (fun M w => Φ M w ∧ EPhi es M w) F.delta_compare #[] (fun x => x ∈ es) :=
  ⟨by kernel_rfl, fun x y hx hy => compareD_in x.d y.d x.p y.p x.c y.c (fun M w h => delta_row (h.2 x hx)) (fun M w h => delta_row (h.2 y hy)) (by have := hrow x hx; omega)⟩

theorem cell3 {w : World} {g o : Nat} {X : DE} (h : RowAt w g o X.cells) : w.cell? ⟨g, o + 2, none⟩ = some (.int .i64 X.d.n) := by
  have := h 2 (by simp)
  simpa using this

set_option maxHeartbeats 4000000 in
theorem Consolidate_new {Φ : PW} [Stable Φ] (p : Option Addr) (cap : Nat) (l : List DeltaD) (hΦ : ∀ M w, Φ M w → Sl M w p l) (hlen : l.length ≤ 1000000) (hrow : ∀ x ∈ l, x.row.length ≤ 1000000) : GivesNew Φ Try.prog F.delta_Consolidate #[.slice p l.length cap] (consP l) 38 := by
  refine gives_new (Bdelta_Consolidate_run p l.length cap) fun W R => ?_
  refine fun w G cx => (CloneD_in p cap l hΦ (by omega)).use cx fun p1 cap1 cs w cx => ?_
  obtain ⟨es0, rfl, hes⟩ := elems_ex cx.phi.2
  have hl : l.length = es0.length := by rw [← hes, List.length_map]
  have cx1 : Ctx W w (bufE p1 cap1 es0 :: (R ++ G)) (fun M w => Φ M w ∧ EPhi es0 M w) := by
    have h1 := cx.weak (Ψ := fun M w => Φ M w ∧ EPhi es0 M w) fun M w h => ⟨h.1, elems_e (by rw [hes]; exact h.2)⟩
    rw [hl] at h1
    exact h1
  have hrow0 : ∀ x ∈ es0, x.d.row.length ≤ 1000000 := fun x hx => hrow x.d (by rw [← hes]; exact List.mem_map_of_mem hx)
  have hf := cmpFn_delta (Φ := Φ) hrow0
  clear cx
  refine ⟨p1, es0.length, cap1, by rw [hl], bufE p1 cap1 es0 :: R, _, inferInstance, cx1, fun w G cx => ?_⟩
  refine SortStable_use (S := R ++ G) hf es0 (fun e h => h) cx (by omega) fun es w hp ha cx => ?_
  have hn : es0.length = es.length := hp.length_eq.symm
  have hi0 : ∀ x ∈ es, EPhi es0 = EPhi es0 := fun _ _ => rfl
  have cx2 : Ctx W w (bufE p1 cap1 es :: (R ++ G)) (fun M w => Φ M w ∧ EPhi es M w) := cx.weak fun M w h => ⟨h.1, fun x hx => h.2 x (hp.mem_iff.1 hx)⟩
  have hfind : ∀ k, findP (es.map DE.d) k = findP l k := fun k => by rw [← hes]; exact findP_perm (hp.map DE.d) k
  have hrowE : ∀ x ∈ es, x.d.row.length ≤ 1000000 := fun x hx => hrow0 x (hp.mem_iff.1 hx)
  have hcmp := (cmpFn_delta (Φ := Φ) hrowE).2
  have hpg : 0 < es.length → ∃ g, p1 = some ⟨g, 0, none⟩ := fun h => e_ptr cx2 h
  have hcap : es.length ≤ cap1 := (cx2.bufLen 0 rfl).2.1
  rw [hn]
  refine ⟨rfl, bufE p1 cap1 es :: R, _, inferInstance, cx2, ?_⟩
  clear hf hrow0 hi0 cx cx1 cx2 hrow hp hes
  refine exI_mk (fun sp sn sc op on oc R' Φ' k => ∃ (i : Nat) (outs : List DE), COuter l es outs i ∧ sn = es.length - i ∧ sn ≤ sc ∧ (∀ g, p1 = some ⟨g, 0, none⟩ → i < es.length → sp = some ⟨g, i * 3, none⟩) ∧ on = outs.length ∧ R' = bufE op oc outs :: bufE p1 cap1 es :: R ∧ Φ' = (fun M w => (Φ M w ∧ EPhi es M w) ∧ EPhi outs M w) ∧ k = es.length - i)
    ⟨⟨bufE none 0 [] :: bufE p1 cap1 es :: R, fun M w => (Φ M w ∧ EPhi es M w) ∧ EPhi ([] : List DE) M w, _, inferInstance, fun w G cx => ((cx.weak fun M w h => ⟨h, fun x hx => by cases hx⟩).nobuf 38 3), 0, [], ⟨Nat.zero_le _, Norm.nil, by simp, fun k => hfind k, Nat.le_refl _⟩, by omega, by omega, fun g hg _ => by rw [hg, Nat.zero_mul], rfl, rfl, rfl, rfl⟩, ?_⟩
  rintro sp sn sc op on oc R1 Φ1 k _ ⟨i, outs, hco, rfl, hsc, hsp, rfl, rfl, rfl, rfl⟩
  have hile := hco.le
  refine Br.intro (fun hlt => ?_) (fun hge => fun w G cx => ?_)
  · have hlt := of_decide_eq_true hlt
    have hlt : i < es.length := by omega
    obtain ⟨g, rfl⟩ := hpg (by omega)
    have hsp := hsp g rfl hlt
    subst hsp
    have hstP : Stable (fun M w => (Φ M w ∧ EPhi es M w) ∧ EPhi outs M w) := inferInstance
    obtain ⟨X, hX⟩ : ∃ X, es[i]? = some X := ⟨_, List.getElem?_eq_getElem hlt⟩
    have hXm : X ∈ es := List.mem_of_getElem? hX
    have hXd : X ∈ es.drop i := by
      rw [List.drop_eq_getElem_cons hlt]
      rw [List.getElem?_eq_getElem hlt] at hX
      rw [Option.some.inj hX]; simp
    have hdX : es.drop i = X :: es.drop (i + 1) := by
      rw [List.drop_eq_getElem_cons hlt]
      rw [List.getElem?_eq_getElem hlt] at hX
      rw [Option.some.inj hX]
    refine ⟨by omega, ptrK_intro g (i * 3) rfl fun w G cx => ⟨X.d.time, X.p, X.d.row.length, X.c, X.d.n, e_row cx.swap hX, fun _ => ?_⟩⟩
    obtain ⟨hIt, hIn⟩ : I64 X.d.time ∧ I64 X.d.n := by
      obtain ⟨_, _, _, _, _, h1, h2, _⟩ := delta_cells (cx.phi.1.2 X hXm)
      exact ⟨h1, h2⟩
    clear cx
    refine exI_mk (fun kI tm rp rn rc nn R' Φ' k => ∃ j : Nat, kI = j ∧ 1 ≤ j ∧ i + j ≤ es.length ∧ tm = X.d.time ∧ rp = X.p ∧ rn = X.d.row.length ∧ rc = X.c ∧ nn = findP (((es.drop i).take j).map DE.d) X.d.key ∧ (∀ y ∈ (es.drop i).take j, y.d.key = X.d.key) ∧ R' = bufE op oc outs :: bufE (some ⟨g, 0, none⟩) cap1 es :: R ∧ Φ' = (fun M w => (Φ M w ∧ EPhi es M w) ∧ EPhi outs M w) ∧ k = es.length - i - j)
      ⟨⟨_, _, _, hstP, fun w G cx => cx, 1, rfl, Nat.le_refl _, hlt, rfl, rfl, rfl, rfl, ?_, ?_, rfl, rfl, rfl⟩, ?_⟩
    · rw [hdX]
      show X.d.n = w64 ((if X.d.key = X.d.key then X.d.n else 0) + 0)
      rw [if_pos rfl, Int.add_zero, w64_id hIn]
    · rw [hdX]
      intro y hy
      simp at hy
      rw [hy]
    rintro kI _ _ _ _ nn R2 Φ2 k _ ⟨j, rfl, hj1, hj2, rfl, rfl, rfl, rfl, hnn, hkeys, rfl, rfl, rfl⟩
    have hXlen : X.d.row.length ≤ 1000000 := hrowE X hXm
    refine ⟨_, _, hstP, fun w G cx => cx, Br.intro (fun hlt2 => ?_) (fun hge2 => ?_)⟩
    case' refine_2 =>
      have hgt : ∀ y ∈ es.drop (i + j), cmpK X.d.key y.d.key < 0 := by
        have hge2 := of_decide_eq_false hge2
        rw [List.drop_eq_nil_of_le (by omega)]
        intro y hy; cases hy
    case' refine_1 =>
      have hlt2 := of_decide_eq_true hlt2
      have hij : i + j < es.length := by omega
      obtain ⟨Y, hY⟩ : ∃ Y, es[i + j]? = some Y := ⟨_, List.getElem?_eq_getElem hij⟩
      have hYm : Y ∈ es := List.mem_of_getElem? hY
      have hcall : GivesIn (fun M w => (Φ M w ∧ EPhi es M w) ∧ EPhi outs M w) Try.prog F.delta_compare #[.agg #[.int .i64 X.d.time, .slice X.p X.d.row.length X.c, .int .i64 nn], Y.v] (.int .i64 (cmpD ⟨X.d.time, X.d.row, nn⟩ Y.d)) :=
        compareD_in ⟨X.d.time, X.d.row, nn⟩ Y.d X.p Y.p X.c Y.c (fun M w h => show Sl M w X.p X.d.row from delta_row (h.1.2 X hXm)) (fun M w h => delta_row (h.1.2 Y hYm)) (by show X.d.row.length ≤ _; omega)
      have hYr : ∀ {w : World} {G : List Own}, Ctx W w (bufE op oc outs :: bufE (some ⟨g, 0, none⟩) cap1 es :: R ++ G) (fun M w => (Φ M w ∧ EPhi es M w) ∧ EPhi outs M w) → RowAt w g (i * 3 + (j : Int).toNat * 3) Y.cells := fun cx => by
        rw [Int.toNat_natCast, ← Nat.add_mul]; exact e_row cx.swap hY
      refine ⟨by omega, ptrK_intro g (i * 3) rfl ⟨Y.d.time, Y.p, Y.d.row.length, Y.c, Y.d.n, fun w G cx => ⟨_, Y.p, _, Y.c, _, hYr cx, rfl⟩, fun w G cx => hcall.use cx fun w cx => ⟨_, rfl, bufE op oc outs :: bufE (some ⟨g, 0, none⟩) cap1 es :: R, _, hstP, cx, Br.intro (fun hc => ?_) (fun hc => ?_)⟩⟩⟩
    case' refine_1.refine_1 =>
      have hc := of_decide_eq_true hc
      rw [cmpD_key] at hc
      have hk := (cmpK_cmp.eq _ _).1 hc
      have hk' : Y.d.key = X.d.key := hk.symm
      have htk : (es.drop i).take (j + 1) = (es.drop i).take j ++ [Y] := by
        have hlt3 : j < (es.drop i).length := by rw [List.length_drop]; omega
        rw [List.take_succ_eq_append_getElem hlt3]
        congr 2
        rw [List.getElem_drop]
        rw [List.getElem?_eq_getElem hij] at hY
        exact Option.some.inj hY
      refine ⟨by omega, ptrK_intro g (i * 3) rfl fun w G cx => ⟨Y.d.n, cell3 (hYr cx), by unfold I64; omega, _, _, es.length - i - (j + 1), hstP, fun w G cx => cx, ⟨j + 1, by omega, by omega, by omega, rfl, rfl, rfl, rfl, ?_, ?_, rfl, rfl, rfl⟩, by omega⟩⟩
      · rw [htk, List.map_append, hnn]
        exact (find_snoc hk').symm
      · rw [htk]
        intro y hy
        rcases List.mem_append.1 hy with hy | hy
        · exact hkeys y hy
        · rw [List.mem_singleton.1 hy]; exact hk'
    case' refine_1.refine_2 =>
      have hgt : ∀ y ∈ es.drop (i + j), cmpK X.d.key y.d.key < 0 := by
        have hc := of_decide_eq_false hc
        rw [cmpD_key] at hc
        have hXi : es[i] = X := by rw [List.getElem?_eq_getElem hlt] at hX; exact Option.some.inj hX
        have hYi : es[i + j] = Y := by rw [List.getElem?_eq_getElem hij] at hY; exact Option.some.inj hY
        have h1 : leE es[i] es[i + j] := asc_le ordE ha (by omega) hij
        rw [hXi, hYi] at h1
        have h1 : cmpK X.d.key Y.d.key < 0 := by
          have h2 : cmpK X.d.key Y.d.key ≤ 0 := by rw [← cmpD_key]; exact h1
          have h3 : cmpK X.d.key Y.d.key ≠ 0 := hc
          omega
        intro y hy
        obtain ⟨q, hq, rfl⟩ := List.getElem_of_mem hy
        rw [List.length_drop] at hq
        rw [List.getElem_drop]
        have h2 : leE es[i + j] es[i + j + q] := asc_le ordE ha (by omega) (by omega)
        rw [hYi] at h2
        have h2 : cmpK Y.d.key es[i + j + q].d.key ≤ 0 := by rw [← cmpD_key]; exact h2
        rcases Int.lt_or_eq_of_le h2 with h3 | h3
        · exact cmpK_cmp.trans _ _ _ h1 h3
        · rw [← (cmpK_cmp.eq _ _).1 h3]; exact h1
      clear hc hcall hYr
    all_goals
      obtain ⟨hz, hnz⟩ := hco.step hXd (by omega) hj1 hkeys hnn hgt
      refine Br.intro (fun h0 => fun w G cx => ?_) (fun h0 => ⟨by omega, _, _, es.length - (i + j), hstP, fun w G cx => cx, ⟨i + j, outs, hz (by have := of_decide_eq_false h0; omega), by rw [Int.toNat_natCast]; omega, by rw [Int.toNat_natCast]; omega, fun g' hg' h => by cases hg'; rw [Int.toNat_natCast]; exact sub_at (by omega), rfl, rfl, rfl, rfl⟩, by omega⟩)
      have h0 : nn ≠ 0 := of_decide_eq_true h0
      have hco2 := hnz h0
      have hfew := hco.few
      refine (CloneV_in (Φ := fun M w => (Φ M w ∧ EPhi es M w) ∧ EPhi outs M w) X.p X.c X.d.row (fun M w h => delta_row (h.1.2 X hXm)) (by omega)).use cx fun q qc vc w cx => ?_
      obtain ⟨_, hq1, hq2⟩ := cx.bufLen 0 rfl
      obtain ⟨cx3, hs, _⟩ := Ctx.freeze (α := ValD) cx.fst cx.phi.2
      have hst2 : Stable (fun M w => (fun M w => (Φ M w ∧ EPhi es M w) ∧ EPhi outs M w) M w ∧ Sl M w q X.d.row) := inferInstance
      refine ⟨q, _, qc, rfl, bufE op oc outs :: bufE (some ⟨g, 0, none⟩) cap1 es :: R, _, hst2, cx3.add hs, fun k w G cx => ?_⟩
      obtain ⟨p', cap', w', hrun, _, cx'⟩ := Ctx.app1 (P := Try.prog) (ts := 22) (ty := 22) (kb := #[false, false]) (size := 3) (bytes := 40) cx (by kernel_rfl) (by omega) rfl rfl (by omega) (by omega)
      have hcells : cellsE outs ++ [.int .i64 X.d.time, .slice q X.d.row.length qc, .int .i64 nn] = cellsE (outs ++ [⟨⟨X.d.time, X.d.row, nn⟩, q, qc⟩]) := by rw [cellsE_app]; rfl
      have hlen1 : outs.length + 1 = (outs ++ [(⟨⟨X.d.time, X.d.row, nn⟩, q, qc⟩ : DE)]).length := by simp
      have hnI : I64 nn := by rw [hnn]; exact w64_in _
      have hst3 : Stable (fun M w => (Φ M w ∧ EPhi es M w) ∧ EPhi (outs ++ [(⟨⟨X.d.time, X.d.row, nn⟩, q, qc⟩ : DE)]) M w) := inferInstance
      rw [hcells, hlen1] at cx'
      refine ⟨p', _, cap', w', hrun, bufE p' cap' (outs ++ [(⟨⟨X.d.time, X.d.row, nn⟩, q, qc⟩ : DE)]) :: bufE (some ⟨g, 0, none⟩) cap1 es :: R, _, hst3, cx'.weak fun M w h => ⟨h.1.1, fun x hx => ?_⟩, by omega, _, _, es.length - (i + j), hst3, fun w G cx => cx, ⟨i + j, _, hco2 q qc, by rw [Int.toNat_natCast]; omega, by rw [Int.toNat_natCast]; omega, fun g' hg' h => by cases hg'; rw [Int.toNat_natCast]; exact sub_at (by omega), hlen1, rfl, rfl, rfl⟩, by omega⟩
      rcases List.mem_append.1 hx with hx | hx
      · exact h.1.2 x hx
      · rw [List.mem_singleton.1 hx]
        exact rep_delta hq1 hq2 hIt hnI h.2
  · have hge := of_decide_eq_false hge
    have hi : i = es.length := by omega
    have hnorm := hco.norm
    have hfi := hco.find
    rw [hi, List.drop_length] at hfi
    have hc : consP l = outs.map DE.d := consP_is hnorm fun k => by have := hfi k; rw [List.map_nil, List.append_nil] at this; exact this
    have hol : (consP l).length = outs.length := by rw [hc, List.length_map]
    refine ⟨op, oc, cellsE outs, by rw [hol], ?_⟩
    have hstP : Stable (fun M w => (Φ M w ∧ EPhi es M w) ∧ EPhi outs M w) := inferInstance
    have cx3 : Ctx W w (bufE op oc outs :: R) (fun M w => (Φ M w ∧ EPhi es M w) ∧ EPhi outs M w) := (cx.left.swap).drop1
    rw [hol]
    exact cx3.weak fun M w h => ⟨h.1.1, by rw [hc]; exact e_elems h.2⟩

end Go.Proofs.Ytnapfhbibikbiaa
end

/-
  Sub, Diff, Same, walked.
-/
section
set_option linter.unusedVariables false
set_option linter.unusedSimpArgs false
namespace Go.Proofs.Ytnapfhbibikbiaa
open Go.Vc


/-- a consolidated list that nobody writes -/
theorem new_sl {Φ : PW} [Stable Φ] {P : Program} {f : FuncId} {args : Array Value} {l : List DeltaD} (h : GivesNew Φ P f args l 38) : GivesSl Φ P f args l id :=
  ⟨fun W w S c => (h.go W w S c).mono fun e w' ⟨p, cap, cs, he, cx⟩ => by
    obtain ⟨_, h1, h2⟩ := cx.bufLen 0 rfl
    obtain ⟨cx3, hs, _⟩ := Ctx.freeze (α := DeltaD) cx.fst cx.phi.2
    exact ⟨p, cap, he, h1, h2, cx3.add hs⟩⟩

theorem Consolidate_sl {Φ : PW} [Stable Φ] (p : Option Addr) (cap : Nat) (l : List DeltaD) (hΦ : ∀ M w, Φ M w → Sl M w p l) (hlen : l.length ≤ 1000000) (hrow : ∀ x ∈ l, x.row.length ≤ 1000000) : GivesSl Φ Try.prog F.delta_Consolidate #[.slice p l.length cap] (consP l) id :=
  new_sl (Consolidate_new p cap l hΦ hlen hrow)

/-- rows of what is consolidated are rows of what there was -/
theorem insD_row (x : DeltaD) {P : List ValD → Prop} (hx : P x.row) : ∀ {c : List DeltaD}, (∀ y ∈ c, P y.row) → ∀ z ∈ insD x c, P z.row
  | [], _, z, hz => by
    unfold insD at hz
    split at hz
    · cases hz
    · rw [List.mem_singleton.1 hz]; exact hx
  | y :: t, h, z, hz => by
    have hy := h y (by simp)
    have ht : ∀ q ∈ t, P q.row := fun q hq => h q (by simp [hq])
    unfold insD at hz
    split at hz
    · split at hz
      · exact h z hz
      · rcases List.mem_cons.1 hz with rfl | hz
        · exact hx
        · exact h z hz
    · split at hz
      · split at hz
        · exact ht z hz
        · rcases List.mem_cons.1 hz with rfl | hz
          · exact hy
          · exact ht z hz
      · rcases List.mem_cons.1 hz with rfl | hz
        · exact hy
        · exact insD_row x hx ht z hz
theorem consP_row {P : List ValD → Prop} : ∀ {l : List DeltaD}, (∀ x ∈ l, P x.row) → ∀ z ∈ consP l, P z.row
  | [], _, z, hz => by cases hz
  | x :: l, h, z, hz => insD_row x (h x (by simp)) (consP_row fun y hy => h y (by simp [hy])) z hz

/-! ### Sub -/
def negD (x : DeltaD) : DeltaD := ⟨x.time, x.row, w64 (0 - x.n)⟩
def subP (a b : List DeltaD) : List DeltaD := consP (a ++ b.map negD)

set_option maxHeartbeats 1000000 in
theorem Sub_pin {Φ : PW} [Stable Φ] (p : Option Addr) (cap : Nat) (a : List DeltaD) (q : Option Addr) (cap2 : Nat) (b : List DeltaD) (g o : Nat) (cs : List (List Value)) (hq : 0 < b.length → q = some ⟨g, o, none⟩) (hΦ : ∀ M w, Φ M w → Sl M w p a) (hΨ : ∀ M w, Φ M w → Pin g o cs b M w)
    (ha : a.length ≤ 400000) (hb : b.length ≤ 400000) (hra : ∀ x ∈ a, x.row.length ≤ 1000000) (hrb : ∀ x ∈ b, x.row.length ≤ 1000000) : GivesSl Φ Try.prog F.delta_Sub #[.slice p a.length cap, .slice q b.length cap2] (subP a b) id := by
  refine ⟨fun W0 w0 S0 c0 => ?_⟩
  have hcs : ∀ j, (hj : j < b.length) → ∃ p c, cs.getD j [] = b[j].cells p c ∧ b[j].row.length ≤ c ∧ c ≤ maxLen ∧ I64 b[j].time ∧ I64 b[j].n := fun j hj => by
    obtain ⟨p, c, h1, h2, h3, h4, h5, _⟩ := pin_delta (hΨ _ _ c0.phi) hj
    exact ⟨p, c, h1, h2, h3, h4, h5⟩
  refine GivesSl.go (gives_sl (Bdelta_Sub_run p a.length cap q b.length cap2) fun W R => ?_) W0 w0 S0 c0
  clear c0
  refine fun w G cx => (CloneD_in p cap a hΦ (by omega)).use cx fun p1 cap1 ds w cx => ⟨p1, _, cap1, rfl, .buf p1 a.length cap1 ds 38 3 :: R, _, inferInstance, cx, ?_⟩
  refine exI_mk (fun sp sn sc iI R' Φ' k => ∃ (i : Nat) (ds : List Value), iI = i ∧ i ≤ b.length ∧ sn = (a ++ (b.take i).map negD).length ∧ R' = .buf sp sn sc ds 38 3 :: R ∧ Φ' = (fun M w => Φ M w ∧ Elems M w ds (a ++ (b.take i).map negD)) ∧ k = b.length - i)
    ⟨⟨.buf p1 a.length cap1 ds 38 3 :: R, fun M w => Φ M w ∧ Elems M w ds (a ++ (b.take 0).map negD), _, inferInstance, fun w G cx => cx.weak fun M w h => ⟨h.1, by simpa using h.2⟩, 0, ds, rfl, Nat.zero_le _, by simp, rfl, rfl, rfl⟩, ?_⟩
  clear cx
  rintro sp _ sc iI R1 Φ1 k _ ⟨i, ds, rfl, hi, rfl, rfl, rfl, rfl⟩
  have hln : (a ++ (b.take i).map negD).length = a.length + i := by simp; omega
  have hst : Stable (fun M w => Φ M w ∧ Elems M w ds (a ++ (b.take i).map negD)) := inferInstance
  refine Br.intro (fun hlt => ?_) (fun hge => fun w G cx => ?_)
  · have hlt := of_decide_eq_true hlt
    have hlt : i < b.length := by omega
    obtain ⟨r, rc, he, h1, h2, h3, h4⟩ := hcs i hlt
    refine ⟨by omega, ptrK_intro g o (hq (by omega)) fun w G cx => ⟨b[i].time, r, b[i].row.length, rc, b[i].n, by rw [Int.toNat_natCast]; exact pin_rowAt (hΨ _ _ cx.phi.1) hlt he, fun _ k w G cx => ?_⟩⟩
    obtain ⟨p', cap', w', hrun, _, cx'⟩ := Ctx.app1 (P := Try.prog) (ts := 22) (ty := 22) (kb := #[false, false]) (size := 3) (bytes := 40) cx (by kernel_rfl) (by omega) rfl rfl (by omega) (by omega)
    have htk : a ++ (b.take (i + 1)).map negD = (a ++ (b.take i).map negD) ++ [negD b[i]] := by rw [List.take_succ_eq_append_getElem hlt, List.map_append, ← List.append_assoc]; rfl
    have hln2 : (a ++ (b.take i).map negD).length + 1 = (a ++ (b.take (i + 1)).map negD).length := by rw [htk, List.length_append (bs := [negD b[i]])]; rfl
    rw [hln2] at cx' hrun
    have hst3 : Stable (fun M w => Φ M w ∧ Elems M w (ds ++ (negD b[i]).cells r rc) (a ++ (b.take (i + 1)).map negD)) := inferInstance
    refine ⟨p', _, cap', w', hrun, .buf p' (a ++ (b.take (i + 1)).map negD).length cap' (ds ++ (negD b[i]).cells r rc) 38 3 :: R, _, hst3, cx'.weak fun M w h => ⟨h.1, ?_⟩, by unfold I64; omega, _, _, b.length - (i + 1), hst3, fun w G cx => cx, ⟨i + 1, _, by omega, hlt, rfl, rfl, rfl, rfl⟩, by omega⟩
    rw [htk]
    exact h.2.snoc (rep_delta (x := negD b[i]) h1 h2 h3 (w64_in _) (show Sl M w r b[i].row from pin_row (hΨ M w h.1) hlt he))
  · have hge := of_decide_eq_false hge
    have hi : i = b.length := by omega
    subst hi
    have hall : a ++ (b.take b.length).map negD = a ++ b.map negD := by rw [List.take_length]
    rw [hall] at cx ⊢
    obtain ⟨cx3, hs, _⟩ := Ctx.freeze (α := DeltaD) cx.fst cx.phi.2
    have hst4 : Stable (fun M w => Φ M w ∧ Sl M w sp (a ++ b.map negD)) := inferInstance
    refine (Consolidate_sl (Φ := fun M w => Φ M w ∧ Sl M w sp (a ++ b.map negD)) sp sc (a ++ b.map negD) (fun M w h => h.2) (by simp; omega) (fun x hx => ?_)).use (cx3.add hs) fun p3 c3 w h1 h2 cx => ⟨p3, _, c3, rfl, R, fun M w => Φ M w ∧ Sl M w p3 (subP a b), inferInstance, cx.weak fun M w h => ⟨h.1.1, h.2⟩, fun w G cx => ⟨p3, c3, rfl, h1, h2, cx.left⟩⟩
    rcases List.mem_append.1 hx with hx | hx
    · exact hra x hx
    · obtain ⟨y, hy, rfl⟩ := List.mem_map.1 hx
      exact hrb y hy

theorem Sub_sl {Φ : PW} [Stable Φ] (p : Option Addr) (cap : Nat) (a : List DeltaD) (q : Option Addr) (cap2 : Nat) (b : List DeltaD) (hΦ : ∀ M w, Φ M w → Sl M w p a) (hΨ : ∀ M w, Φ M w → Sl M w q b)
    (ha : a.length ≤ 400000) (hb : b.length ≤ 400000) (hra : ∀ x ∈ a, x.row.length ≤ 1000000) (hrb : ∀ x ∈ b, x.row.length ≤ 1000000) : GivesSl Φ Try.prog F.delta_Sub #[.slice p a.length cap, .slice q b.length cap2] (subP a b) id :=
  .pinned hΨ fun g o cs hq => Sub_pin (Φ := fun M w => Φ M w ∧ Pin g o cs b M w) p cap a q cap2 b g o cs hq (fun M w h => hΦ M w h.1) (fun M w h => h.2) ha hb hra hrb

theorem Diff_sl {Φ : PW} [Stable Φ] (p : Option Addr) (cap : Nat) (a : List DeltaD) (q : Option Addr) (cap2 : Nat) (b : List DeltaD) (hΦ : ∀ M w, Φ M w → Sl M w p a) (hΨ : ∀ M w, Φ M w → Sl M w q b)
    (ha : a.length ≤ 400000) (hb : b.length ≤ 400000) (hra : ∀ x ∈ a, x.row.length ≤ 1000000) (hrb : ∀ x ∈ b, x.row.length ≤ 1000000) : GivesSl Φ Try.prog F.difference_Diff #[.slice p a.length cap, .slice q b.length cap2] (subP b a) id := by
  refine gives_sl (Bdifference_Diff_run p a.length cap q b.length cap2) fun W R => ?_
  exact fun w G cx => (Sub_sl q cap2 b p cap a hΨ hΦ hb ha hrb hra).use cx fun p3 c3 w h1 h2 cx => ⟨p3, _, c3, rfl, R, _, inferInstance, cx, fun w G cx => ⟨p3, c3, rfl, h1, h2, cx.left⟩⟩

/-! ### Same -/
theorem delta_iff {x y : DeltaD} : x = y ↔ (x.time = y.time ∧ (x.row = y.row ∧ x.n = y.n)) := by cases x; cases y; simp
instance : DecidableEq DeltaD := fun _ _ => decidable_of_iff _ delta_iff.symm
def sameD (x y : DeltaD) : Bool := decide (cmpD x y = 0) && decide (x.n = y.n)
theorem sameD_eq {x y : DeltaD} : sameD x y = true ↔ x = y := by
  unfold sameD
  rw [Bool.and_eq_true, decide_eq_true_eq, decide_eq_true_eq, cmpD_key]
  exact ⟨fun h => delta_ext ((cmpK_cmp.eq _ _).1 h.1) h.2, fun h => by subst h; exact ⟨cmpK_cmp.refl _, rfl⟩⟩

theorem Same1_in {Φ : PW} [Stable Φ] (x y : DeltaD) (p q : Option Addr) (cap cap2 : Nat) (hΦ : ∀ M w, Φ M w → Sl M w p x.row) (hΨ : ∀ M w, Φ M w → Sl M w q y.row) (hlen : x.row.length ≤ 9223372036854775807) :
    GivesIn Φ Try.prog F.delta_Same_1 #[x.v p cap, y.v q cap2] (.bool (sameD x y)) := by
  refine gives_in (Bdelta_Same_1_run x.time p x.row.length cap x.n y.time q y.row.length cap2 y.n) fun W R => ?_
  refine fun _ _ w G cx => (compareD_in x y p q cap cap2 hΦ hΨ hlen).use cx fun w cx => ⟨_, rfl, R, Φ, inferInstance, cx, Br.intro (fun h => fun w G cx => ⟨?_, cx.left⟩) (fun h => fun w G cx => ⟨?_, cx.left⟩)⟩
  · unfold sameD; rw [h, Bool.true_and]
  · unfold sameD; rw [h, Bool.false_and]

theorem EqualFunc_pin {Φ : PW} [Stable Φ] (p : Option Addr) (cap : Nat) (a : List DeltaD) (q : Option Addr) (cap2 : Nat) (b : List DeltaD) (g1 o1 : Nat) (cs1 : List (List Value)) (g2 o2 : Nat) (cs2 : List (List Value)) (hp : 0 < a.length → p = some ⟨g1, o1, none⟩) (hq : 0 < b.length → q = some ⟨g2, o2, none⟩)
    (hΦ : ∀ M w, Φ M w → Pin g1 o1 cs1 a M w) (hΨ : ∀ M w, Φ M w → Pin g2 o2 cs2 b M w) (hlen : a.length ≤ 9223372036854775807) :
    GivesIn Φ Try.prog F.slices_EqualFunc_api_Delta__api_Delta_api_Delta_api_Delta #[.slice p a.length cap, .slice q b.length cap2, .func (.func F.delta_Same_1) #[] #[]] (.bool (decide (a = b))) := by
  refine in_cells hΦ fun hc1 => in_cells hΨ fun hc2 => ?_
  refine gives_in (Bslices_EqualFunc_api_Delta__api_Delta_api_Delta_api_Delta_run p a.length cap q b.length cap2 F.delta_Same_1 #[]) fun W R => ?_
  refine Br.intro (fun h => fun w G cx => ⟨?_, cx.left⟩) (fun h => ?_)
  · rw [decide_eq_false]
    intro e
    have := of_decide_eq_true h
    rw [e] at this
    exact this rfl
  have hl : a.length = b.length := by have := of_decide_eq_false h; omega
  refine exI_mk (fun iI R' Φ' k => ∃ i : Nat, iI = i ∧ i ≤ a.length ∧ R' = R ∧ Φ' = Φ ∧ k = a.length - i ∧ a.take i = b.take i) ⟨⟨R, Φ, _, inferInstance, fun w F c => c, 0, rfl, Nat.zero_le _, rfl, rfl, rfl, rfl⟩, ?_⟩
  rintro iI R1 Φ1 k _ ⟨i, rfl, hi, rfl, rfl, rfl, hs⟩
  refine Br.intro (fun hlt => ?_) (fun hge => fun w F cx => ⟨?_, cx.left⟩)
  · have hlt : i < a.length := by have := of_decide_eq_true hlt; omega
    have hltb : i < b.length := by omega
    obtain ⟨r1, rc1, he1, f1, f2, _, _⟩ := hc1 i hlt
    obtain ⟨r2, rc2, he2, f3, f4, _, _⟩ := hc2 i hltb
    have hcall := Same1_in (Φ := Φ1) a[i] b[i] r1 r2 rc1 rc2 (fun M w h => pin_row (hΦ M w h) hlt he1) (fun M w h => pin_row (hΨ M w h) hltb he2) (len_max f1 f2)
    refine ⟨by omega, ptrK_intro g1 o1 (hp (by omega)) fun w G cx => ⟨a[i].time, r1, a[i].row.length, rc1, a[i].n, by rw [Int.toNat_natCast]; exact pin_rowAt (hΦ _ _ cx.phi) hlt he1, fun _ => ⟨by omega, ptrK_intro g2 o2 (hq (by omega)) fun w G cx => ⟨b[i].time, r2, b[i].row.length, rc2, b[i].n, by rw [Int.toNat_natCast]; exact pin_rowAt (hΨ _ _ cx.phi) hltb he2, fun _ w G cx => ⟨by kernel_rfl, hcall.use cx fun w cx => ⟨_, rfl, R1, Φ1, inferInstance, cx, Br.intro (fun h => fun w G cx => ⟨?_, cx.left⟩) (fun h => ⟨by unfold I64; omega, R1, Φ1, a.length - (i + 1), inferInstance, fun w F c => c, ⟨i + 1, rfl, hlt, rfl, rfl, rfl, ?_⟩, by omega⟩)⟩⟩⟩⟩⟩⟩
    · rw [decide_eq_false]
      intro e
      subst e
      have : sameD a[i] a[i] = true := sameD_eq.2 rfl
      rw [this] at h; cases h
    · have he : a[i] = b[i] := sameD_eq.1 (by simpa using h)
      rw [List.take_succ_eq_append_getElem hlt, List.take_succ_eq_append_getElem hltb, hs, he]
  · have hge : i = a.length := by have := of_decide_eq_false hge; omega
    rw [decide_eq_true]
    rw [hge, List.take_length, hl, List.take_length] at hs
    exact hs

theorem Same_in {Φ : PW} [Stable Φ] (p : Option Addr) (cap : Nat) (a : List DeltaD) (q : Option Addr) (cap2 : Nat) (b : List DeltaD) (hΦ : ∀ M w, Φ M w → Sl M w p a) (hΨ : ∀ M w, Φ M w → Sl M w q b)
    (ha : a.length ≤ 400000) (hb : b.length ≤ 400000) (hra : ∀ x ∈ a, x.row.length ≤ 1000000) (hrb : ∀ x ∈ b, x.row.length ≤ 1000000) : GivesIn Φ Try.prog F.delta_Same #[.slice p a.length cap, .slice q b.length cap2] (.bool (decide (consP a = consP b))) := by
  refine gives_in (Bdelta_Same_run p a.length cap q b.length cap2) fun W R => ?_
  refine fun w G cx => (Consolidate_sl p cap a hΦ (by omega) hra).use cx fun p1 c1 w h1 h2 cx => ⟨p1, _, c1, rfl, R, _, inferInstance, cx, fun w G cx => ?_⟩
  refine (Consolidate_sl (Φ := fun M w => Φ M w ∧ Sl M w p1 (consP a)) q cap2 b (fun M w h => hΨ M w h.1) (by omega) hrb).use cx fun p2 c2 w h3 h4 cx => ⟨p2, _, c2, rfl, R, fun M w => (Φ M w ∧ Sl M w p1 (consP a)) ∧ Sl M w p2 (consP b), inferInstance, cx, fun w G cx => ?_⟩
  have heq : GivesIn (fun M w => (Φ M w ∧ Sl M w p1 (consP a)) ∧ Sl M w p2 (consP b)) Try.prog F.slices_EqualFunc_api_Delta__api_Delta_api_Delta_api_Delta #[.slice p1 (consP a).length c1, .slice p2 (consP b).length c2, .func (.func F.delta_Same_1) #[] #[]] (.bool (decide (consP a = consP b))) :=
    .pinned (fun M w h => h.1.2) fun g1 o1 cs1 hp => .pinned (fun M w h => h.1.2) fun g2 o2 cs2 hq => EqualFunc_pin (Φ := fun M w => (((Φ M w ∧ Sl M w p1 (consP a)) ∧ Sl M w p2 (consP b)) ∧ Pin g1 o1 cs1 (consP a) M w) ∧ Pin g2 o2 cs2 (consP b) M w) p1 c1 (consP a) p2 c2 (consP b) g1 o1 cs1 g2 o2 cs2 hp hq (fun M w h => h.1.2) (fun M w h => h.2) (len_max h1 h2)
  exact heq.use cx fun w cx => ⟨_, rfl, R, Φ, inferInstance, cx.weak fun M w h => h.1.1, fun w G cx => ⟨rfl, cx.left⟩⟩

end Go.Proofs.Ytnapfhbibikbiaa
end

/-
  Lines of a difference, walked.
-/
section
set_option linter.unusedVariables false
set_option linter.unusedSimpArgs false
namespace Go.Proofs.Ytnapfhbibikbiaa
open Go.Vc


structure LineD where
  no : Int
  batch : Int
  time : Int
  row : List ValD
  n : Int
  cause : Int
  why : Int
instance : Gv LineD := Gv.via (β := Int × Int × Int × List ValD × Int × Int × Int) (fun x => (x.no, x.batch, x.time, x.row, x.n, x.cause, x.why)) (fun y => ⟨y.1, y.2.1, y.2.2.1, y.2.2.2.1, y.2.2.2.2.1, y.2.2.2.2.2.1, y.2.2.2.2.2.2⟩) (fun _ => rfl)

abbrev LineD.cells (x : LineD) (p : Option Addr) (c : Nat) : List Value := [.int .i64 x.no, .int .i64 x.batch, .int .i64 x.time, .slice p x.row.length c, .int .i64 x.n, .int .i64 x.cause, .int .i64 x.why]
abbrev LineD.v (x : LineD) (p : Option Addr) (c : Nat) : Value := .agg #[.int .i64 x.no, .int .i64 x.batch, .int .i64 x.time, .slice p x.row.length c, .int .i64 x.n, .int .i64 x.cause, .int .i64 x.why]

structure LineD.In (x : LineD) : Prop where
  no : I64 x.no
  batch : I64 x.batch
  time : I64 x.time
  n : I64 x.n
  cause : I64 x.cause
  why : I64 x.why

theorem line_cells {M : List Nat} {w : World} {cs : List Value} {x : LineD} (h : Gv.rep M w cs x) : ∃ p c, cs = x.cells p c ∧ x.row.length ≤ c ∧ c ≤ maxLen ∧ x.In ∧ Sl M w p x.row := by
  obtain ⟨_, _, rfl, ⟨rfl, h1⟩, _, _, rfl, ⟨rfl, h2⟩, _, _, rfl, ⟨rfl, h3⟩, _, _, rfl, ⟨p, c, rfl, g1, g2, g3⟩, _, _, rfl, ⟨rfl, h4⟩, _, _, rfl, ⟨rfl, h5⟩, rfl, h6⟩ := h
  exact ⟨p, c, rfl, g1, g2, ⟨h1, h2, h3, h4, h5, h6⟩, g3⟩

theorem rep_line {M : List Nat} {w : World} {x : LineD} {p : Option Addr} {c : Nat} (h1 : x.row.length ≤ c) (h2 : c ≤ maxLen) (h : x.In) (h5 : Sl M w p x.row) : Gv.rep M w (x.cells p c) x :=
  ⟨[_], [_, _, _, _, _, _], rfl, ⟨rfl, h.no⟩, [_], [_, _, _, _, _], rfl, ⟨rfl, h.batch⟩, [_], [_, _, _, _], rfl, ⟨rfl, h.time⟩, [_], [_, _, _], rfl, ⟨p, c, rfl, h1, h2, h5⟩, [_], [_, _], rfl, ⟨rfl, h.n⟩, [_], [_], rfl, ⟨rfl, h.cause⟩, rfl, h.why⟩

theorem line_row {M : List Nat} {w : World} {x : LineD} {p : Option Addr} {c : Nat} (h : Gv.rep M w (x.cells p c) x) : Sl M w p x.row := by
  obtain ⟨p', c', e, _, _, _, h1⟩ := line_cells h
  simp only [LineD.cells, List.cons.injEq, Value.slice.injEq] at e
  rw [e.2.2.2.1.1]
  exact h1

theorem pin_line {M : List Nat} {w : World} {b o : Nat} {cs : List (List Value)} {l : List LineD} (h : Pin b o cs l M w) {j : Nat} (hj : j < l.length) : ∃ p c, cs.getD j [] = l[j].cells p c ∧ l[j].row.length ≤ c ∧ c ≤ maxLen ∧ l[j].In := by
  obtain ⟨_, h1, h2⟩ := h j hj
  obtain ⟨p, c, e, g1, g2, g3, _⟩ := line_cells h2
  exact ⟨p, c, e, g1, g2, g3⟩

theorem pinl_row {M : List Nat} {w : World} {b o : Nat} {cs : List (List Value)} {l : List LineD} (h : Pin b o cs l M w) {j : Nat} (hj : j < l.length) {p : Option Addr} {c : Nat} (e : cs.getD j [] = l[j].cells p c) : Sl M w p l[j].row := by
  have := (h j hj).2.2
  rw [e] at this
  exact line_row this

theorem pinl_rowAt {M : List Nat} {w : World} {b o : Nat} {cs : List (List Value)} {l : List LineD} (h : Pin b o cs l M w) {j : Nat} (hj : j < l.length) {p : Option Addr} {c : Nat} (e : cs.getD j [] = l[j].cells p c) : RowAt w b (o + j * 7) (l[j].cells p c) := by
  have := (h j hj).2.1
  rw [e] at this
  exact this

/-- the pinned cells, for good -/
theorem in_linesV {Φ : PW} {f : FuncId} {args : Array Value} {v : Value} {b o : Nat} {cs : List (List Value)} {l : List LineD} (hΦ : ∀ M w, Φ M w → Pin b o cs l M w)
    (h : (∀ j, (hj : j < l.length) → ∃ p c, cs.getD j [] = l[j].cells p c ∧ l[j].row.length ≤ c ∧ c ≤ maxLen ∧ l[j].In) → GivesIn Φ Try.prog f args v) : GivesIn Φ Try.prog f args v :=
  ⟨fun W w S c => (h fun j hj => pin_line (hΦ _ _ c.phi) hj).go W w S c⟩

/-! ### Lines -/
def lineP (no batch mark replace : Int) (i : Nat) (x : DeltaD) : LineD :=
  ⟨w64 (no + i), batch, x.time, x.row, x.n, if 0 < replace then 2 else if mark < x.time then 0 else 1, if 0 < replace then replace else 0⟩
def linesC (no batch mark replace : Int) (c : List DeltaD) : List LineD := c.mapIdx (lineP no batch mark replace)
def linesP (no batch mark replace : Int) (d : List DeltaD) : List LineD := linesC no batch mark replace (consP d)

theorem linesC_len (no batch mark replace : Int) (c : List DeltaD) : (linesC no batch mark replace c).length = c.length := by unfold linesC; simp
theorem linesC_at (no batch mark replace : Int) (c : List DeltaD) {i : Nat} (h : i < c.length) : (linesC no batch mark replace c)[i]'(by rw [linesC_len]; exact h) = lineP no batch mark replace i c[i] := by
  unfold linesC; simp
theorem linesC_take (no batch mark replace : Int) (c : List DeltaD) {i : Nat} (h : i < c.length) : (linesC no batch mark replace c).take (i + 1) = (linesC no batch mark replace c).take i ++ [lineP no batch mark replace i c[i]] := by
  rw [List.take_succ_eq_append_getElem (by rw [linesC_len]; exact h), linesC_at no batch mark replace c h]

set_option maxHeartbeats 1000000 in
theorem Lines_sl {Φ : PW} [Stable Φ] (p : Option Addr) (cap : Nat) (d : List DeltaD) (no batch mark replace : Int) (hΦ : ∀ M w, Φ M w → Sl M w p d) (hb : I64 batch) (hr : I64 replace)
    (hlen : d.length ≤ 1000000) (hrow : ∀ x ∈ d, x.row.length ≤ 1000000) : GivesSl Φ Try.prog F.difference_Lines #[.slice p d.length cap, .int .i64 no, .int .i64 batch, .int .i64 mark, .int .i64 replace] (linesP no batch mark replace d) id := by
  refine gives_sl (Bdifference_Lines_run p d.length cap no batch mark replace) fun W R => ?_
  refine fun w G cx => (Consolidate_sl p cap d hΦ hlen hrow).use cx fun q c2 w h1 h2 cx => ?_
  have hcl : (consP d).length ≤ 1000000 := Nat.le_trans (consP_len d) hlen
  unfold linesP
  generalize consP d = c at h1 cx hcl ⊢
  obtain ⟨g, o, cs, hq, cx⟩ := cx.pin cx.phi.2
  have hst0 : Stable (fun M w => (Φ M w ∧ Sl M w q c) ∧ Pin g o cs c M w) := inferInstance
  have hcs : ∀ j, (hj : j < c.length) → ∃ p k, cs.getD j [] = c[j].cells p k ∧ c[j].row.length ≤ k ∧ k ≤ maxLen ∧ I64 c[j].time ∧ I64 c[j].n := fun j hj => by
    obtain ⟨p, k, h1, h2, h3, h4, h5, _⟩ := pin_delta cx.phi.2 hj
    exact ⟨p, k, h1, h2, h3, h4, h5⟩
  refine ⟨q, _, c2, rfl, R, fun M w => Φ M w ∧ Pin g o cs c M w, inferInstance, cx.weak fun M w h => ⟨h.1.1, h.2⟩, ?_⟩
  clear cx hst0
  refine exI_mk (fun sp sn sc iI R' Φ' k => ∃ (i : Nat) (ds : List Value), iI = i ∧ i ≤ c.length ∧ i = sn ∧ R' = .buf sp sn sc ds 32 7 :: R ∧ Φ' = (fun M w => (Φ M w ∧ Pin g o cs c M w) ∧ Elems M w ds ((linesC no batch mark replace c).take i)) ∧ k = c.length - i)
    ⟨⟨.buf none 0 0 [] 32 7 :: R, fun M w => (Φ M w ∧ Pin g o cs c M w) ∧ Elems M w [] ((linesC no batch mark replace c).take 0), _, inferInstance, fun w G cx => (cx.weak fun M w h => ⟨h, Elems.nil⟩).nobuf 32 7, 0, [], rfl, Nat.zero_le _, rfl, rfl, rfl, rfl⟩, ?_⟩
  rintro sp _ sc iI R1 Φ1 k _ ⟨i, ds, rfl, hi, rfl, rfl, rfl, rfl⟩
  refine Br.intro (fun hlt => ?_) (fun hge => fun w G cx => ?_)
  · have hlt := of_decide_eq_true hlt
    have hlt : i < c.length := by omega
    obtain ⟨r, rc, he, g1, g2, g3, g4⟩ := hcs i hlt
    refine ⟨by omega, ptrK_intro g o (hq (by omega)) fun w G cx => ⟨c[i].time, r, c[i].row.length, rc, c[i].n, by rw [Int.toNat_natCast]; exact pin_rowAt cx.phi.1.2 hlt he, fun _ _ => Br.intro (fun h => ?_) (fun h => Br.intro (fun h3 => ?_) (fun h3 => ?_))⟩⟩
    case' refine_1 => obtain ⟨x, hx, hxc⟩ : ∃ x : LineD, lineP no batch mark replace i c[i] = x ∧ x = ⟨w64 (no + i), batch, c[i].time, c[i].row, c[i].n, 2, replace⟩ := ⟨_, rfl, by unfold lineP; rw [if_pos (of_decide_eq_true h), if_pos (of_decide_eq_true h)]⟩
    case' refine_2 => obtain ⟨x, hx, hxc⟩ : ∃ x : LineD, lineP no batch mark replace i c[i] = x ∧ x = ⟨w64 (no + i), batch, c[i].time, c[i].row, c[i].n, 0, 0⟩ := ⟨_, rfl, by unfold lineP; rw [if_neg (of_decide_eq_false h), if_neg (of_decide_eq_false h), if_pos (of_decide_eq_true h3)]⟩
    case' refine_3 => obtain ⟨x, hx, hxc⟩ : ∃ x : LineD, lineP no batch mark replace i c[i] = x ∧ x = ⟨w64 (no + i), batch, c[i].time, c[i].row, c[i].n, 1, 0⟩ := ⟨_, rfl, by unfold lineP; rw [if_neg (of_decide_eq_false h), if_neg (of_decide_eq_false h), if_neg (of_decide_eq_false h3)]⟩
    all_goals
      intro k w G cx
      have hin : x.In := by subst hxc; exact ⟨w64_in _, hb, g3, g4, by unfold I64; dsimp only; omega, by first | exact hr | (unfold I64; dsimp only; omega)⟩
      have hxr : x.row = c[i].row := by rw [hxc]
      obtain ⟨p', cap', w', hrun, _, cx'⟩ := Ctx.app1 (P := Try.prog) (ts := 25) (ty := 25) (kb := #[false, false]) (size := 7) (bytes := 72) cx (by kernel_rfl) (by omega) rfl rfl (by omega) (by omega)
      have hst3 : Stable (fun M w => (Φ M w ∧ Pin g o cs c M w) ∧ Elems M w (ds ++ x.cells r rc) ((linesC no batch mark replace c).take (i + 1))) := inferInstance
      refine ⟨p', i + 1, cap', w', hrun, .buf p' (i + 1) cap' (ds ++ x.cells r rc) 32 7 :: R, _, hst3, ?_, by unfold I64; omega, _, _, c.length - (i + 1), hst3, fun w G cx => cx, ⟨i + 1, _, by omega, hlt, rfl, rfl, rfl, rfl⟩, by omega⟩
      subst hxc
      refine cx'.weak fun M w h => ⟨h.1, ?_⟩
      rw [linesC_take no batch mark replace c hlt, hx]
      exact h.2.snoc (rep_line (by rw [hxr]; exact g1) g2 hin (by rw [hxr]; exact pin_row h.1.2 hlt he))
  · have hge := of_decide_eq_false hge
    have hi : i = c.length := by omega
    subst hi
    have hall : (linesC no batch mark replace c).take c.length = linesC no batch mark replace c := List.take_of_length_le (by rw [linesC_len]; exact Nat.le_refl _)
    rw [hall] at cx
    obtain ⟨_, f1, f2⟩ := cx.left.bufLen 0 rfl
    obtain ⟨cx3, hs, _⟩ := Ctx.freeze (α := LineD) cx.left.fst cx.left.phi.2
    exact ⟨sp, sc, by rw [linesC_len]; rfl, by rw [linesC_len]; exact f1, f2, (cx3.add hs).weak fun M w h => ⟨h.1.1, h.2⟩⟩

/-! ### Net -/
def LineD.d (x : LineD) : DeltaD := ⟨x.time, x.row, x.n⟩
def netP (l : List LineD) : List DeltaD := consP (l.map LineD.d)

/-! ### Least -/
def causeP (x y : LineD) : Bool := decide (x.cause = y.cause) || decide (x.cause = 1) && decide (y.cause = 0) && decide (x.time < y.time)
def followsP (x y : LineD) : Bool :=
  if y.no ≠ w64 (x.no + 1) then false else if y.batch ≠ x.batch then false else if y.why ≠ x.why then false else if y.time < x.time then false
  else if y.time = x.time then (if 0 ≤ cmpR x.row y.row then false else causeP x y) else causeP x y

theorem follows_in {Φ : PW} [Stable Φ] (x y : LineD) (p q : Option Addr) (c c2 : Nat) (hΦ : ∀ M w, Φ M w → Sl M w p x.row) (hΨ : ∀ M w, Φ M w → Sl M w q y.row) (hlen : x.row.length ≤ 9223372036854775807) :
    GivesIn Φ Try.prog F.difference_follows #[x.v p c, y.v q c2] (.bool (followsP x y)) := by
  refine gives_in (Bdifference_follows_run x.no x.batch x.time p x.row.length c x.n x.cause x.why y.no y.batch y.time q y.row.length c2 y.n y.cause y.why) fun W R => ?_
  unfold followsP
  refine fun _ _ => Br.intro (fun h => fun w G cx => ⟨by rw [if_pos (of_decide_eq_true h)], cx.left⟩) (fun h => ?_)
  rw [if_neg (of_decide_eq_false h)]
  refine Br.intro (fun h => fun w G cx => ⟨by rw [if_pos (of_decide_eq_true h)], cx.left⟩) (fun h => ?_)
  rw [if_neg (of_decide_eq_false h)]
  refine Br.intro (fun h => fun w G cx => ⟨by rw [if_pos (of_decide_eq_true h)], cx.left⟩) (fun h => ?_)
  rw [if_neg (of_decide_eq_false h)]
  refine Br.intro (fun h => fun w G cx => ⟨by rw [if_pos (of_decide_eq_true h)], cx.left⟩) (fun h => ?_)
  rw [if_neg (of_decide_eq_false h)]
  refine Br.intro (fun h => fun w G cx => ?_) (fun h => fun w G cx w G cx => ⟨by rw [if_neg (of_decide_eq_false h)]; rfl, cx.left⟩)
  rw [if_pos (of_decide_eq_true h)]
  exact (CompareRows_in p q c c2 x.row y.row hΦ hΨ hlen).use cx fun w cx => ⟨_, rfl, R, Φ, inferInstance, cx, Br.intro (fun h => fun w G cx => ⟨by rw [if_pos (of_decide_eq_true h)], cx.left⟩) (fun h => fun w G cx w G cx => ⟨by rw [if_neg (of_decide_eq_false h)]; rfl, cx.left⟩)⟩

def okL (x : LineD) : Bool := !decide (x.n = 0) && ((decide (x.cause = 2) && decide (0 < x.why)) || ((decide (x.cause = 0) || decide (x.cause = 1)) && decide (x.why = 0)))
def okAt (l : List LineD) (i : Nat) : Bool :=
  match l[i]? with
  | none => true
  | some x => okL x && (match i with
    | 0 => true
    | j + 1 => match l[j]? with
      | none => true
      | some y => followsP y x)
def leastP (l : List LineD) : Bool := (List.range l.length).all (okAt l)

theorem okAt_zero {l : List LineD} (h : 0 < l.length) : okAt l 0 = okL l[0] := by
  unfold okAt; rw [List.getElem?_eq_getElem h]; simp
theorem okAt_succ {l : List LineD} {j : Nat} (h : j + 1 < l.length) : okAt l (j + 1) = (okL l[j + 1] && followsP l[j] l[j + 1]) := by
  unfold okAt
  rw [List.getElem?_eq_getElem h]
  simp only [List.getElem?_eq_getElem (show j < l.length by omega)]
theorem okAt_bad {l : List LineD} {i : Nat} (h : i < l.length) (hx : okL l[i] = false) : okAt l i = false := by
  cases i with
  | zero => rw [okAt_zero h, hx]
  | succ j => rw [okAt_succ h, hx, Bool.false_and]
theorem least_bad {l : List LineD} {i : Nat} (h : i < l.length) (hx : okAt l i = false) : leastP l = false := by
  unfold leastP
  cases e : (List.range l.length).all (okAt l) with
  | false => rfl
  | true =>
    rw [List.all_eq_true] at e
    rw [e i (List.mem_range.2 h)] at hx
    cases hx
theorem range_all {f : Nat → Bool} {i : Nat} (h : (List.range i).all f = true) (hi : f i = true) : (List.range (i + 1)).all f = true := by
  rw [List.range_succ, List.all_append, h]
  simp [hi]

end Go.Proofs.Ytnapfhbibikbiaa
end

/-
  Least, at, small, walked.
-/
section
set_option linter.unusedVariables false
set_option linter.unusedSimpArgs false
namespace Go.Proofs.Ytnapfhbibikbiaa
open Go.Vc


theorem okL_zero {x : LineD} (h : x.n = 0) : okL x = false := by unfold okL; rw [decide_eq_true h]; rfl

set_option maxHeartbeats 1000000 in
theorem Least_pin {Φ : PW} [Stable Φ] (q : Option Addr) (cap : Nat) (l : List LineD) (g o : Nat) (cs : List (List Value)) (hq : 0 < l.length → q = some ⟨g, o, none⟩) (hΨ : ∀ M w, Φ M w → Pin g o cs l M w) (hlen : l.length ≤ 1000000) :
    GivesIn Φ Try.prog F.difference_Least #[.slice q l.length cap] (.bool (leastP l)) := by
  refine in_linesV hΨ fun hcs => ?_
  refine gives_in (Bdifference_Least_run q l.length cap) fun W R => ?_
  refine exI_mk (fun iI R' Φ' k => ∃ i : Nat, iI = i ∧ i ≤ l.length ∧ R' = R ∧ Φ' = Φ ∧ k = l.length - i ∧ (List.range i).all (okAt l) = true)
    ⟨⟨R, Φ, _, inferInstance, fun w G cx => cx, 0, rfl, Nat.zero_le _, rfl, rfl, rfl, rfl⟩, ?_⟩
  rintro iI R1 Φ1 k _ ⟨i, rfl, hi, rfl, rfl, rfl, hs⟩
  refine Br.intro (fun hlt => ?_) (fun hge => fun w G cx => ?_)
  · have hlt := of_decide_eq_true hlt
    have hlt : i < l.length := by omega
    obtain ⟨r, rc, he, h1, h2, h3⟩ := hcs i hlt
    refine ⟨by omega, ptrK_intro g o (hq (by omega)) fun w G cx => ⟨l[i].no, l[i].batch, l[i].time, r, l[i].row.length, rc, l[i].n, l[i].cause, l[i].why, by rw [Int.toNat_natCast]; exact pinl_rowAt (hΨ _ _ cx.phi) hlt he, fun _ w G cx w G cx => ⟨R1, Φ1, inferInstance, fun w G cx => cx, ?_⟩⟩⟩
    clear cx
    refine Br.intro (fun h0 => fun w G cx => ⟨?_, cx.left⟩) (fun h0 => Br.intro (fun hr => Br.intro (fun ho => fun w G cx => ⟨?_, cx.left⟩) (fun ho => ?_)) (fun hr => ?_))
    · rw [least_bad hlt (okAt_bad hlt (okL_zero (of_decide_eq_true h0)))]
    · refine congrArg Value.bool ?_
      rw [least_bad hlt (okAt_bad hlt ?_)]
      unfold okL
      rw [show (decide (l[i].cause = 2) && decide (0 < l[i].why)) = false by simpa only [Bool.not_eq_true'] using hr, show ((decide (l[i].cause = 0) || decide (l[i].cause = 1)) && decide (l[i].why = 0)) = false by simpa only [Bool.not_eq_true'] using ho, Bool.or_false, Bool.and_false]
    case' refine_1.refine_3 =>
      have hok : okL l[i] = true := by
        unfold okL
        rw [h0, show ((decide (l[i].cause = 0) || decide (l[i].cause = 1)) && decide (l[i].why = 0)) = true by simpa only [Bool.not_eq_false'] using ho, Bool.or_true]; rfl
    case' refine_1.refine_4 =>
      have hok : okL l[i] = true := by
        unfold okL
        rw [h0, show (decide (l[i].cause = 2) && decide (0 < l[i].why)) = true by simpa only [Bool.not_eq_false'] using hr, Bool.true_or]; rfl
    all_goals
      refine Br.intro (fun hpos => ?_) (fun hpos => ⟨by unfold I64; omega, _, _, l.length - (i + 1), inferInstance, fun w G cx => cx, ⟨i + 1, by omega, hlt, rfl, rfl, rfl, range_all hs ?_⟩, by omega⟩)
      · have hpos := of_decide_eq_true hpos
        obtain ⟨j, rfl⟩ : ∃ j, i = j + 1 := ⟨i - 1, by omega⟩
        have hj : j < l.length := by omega
        have hji : (((j + 1 : Nat) : Int) - 1).toNat = j := by omega
        obtain ⟨r2, rc2, he2, f1, f2, f3⟩ := hcs j hj
        have hcall := follows_in (Φ := Φ1) l[j] l[j + 1] r2 r rc2 rc (fun M w h => pinl_row (hΨ M w h) hj he2) (fun M w h => pinl_row (hΨ M w h) hlt he) (len_max f1 f2)
        refine ⟨by unfold I64; omega, by omega, ptrK_intro g o (hq (by omega)) ⟨l[j].no, l[j].batch, l[j].time, r2, l[j].row.length, rc2, l[j].n, l[j].cause, l[j].why, fun w G cx => ⟨_, _, _, _, _, _, _, _, _, by rw [hji]; exact pinl_rowAt (hΨ _ _ cx.phi) hj he2, rfl⟩, fun w G cx => hcall.use cx fun w cx => ⟨_, rfl, R1, Φ1, inferInstance, cx, Br.intro (fun hf => fun w G cx => ⟨?_, cx.left⟩) (fun hf => ⟨by unfold I64; omega, _, _, l.length - (j + 2), inferInstance, fun w G cx => cx, ⟨j + 2, by omega, hlt, rfl, rfl, rfl, range_all hs ?_⟩, by omega⟩)⟩⟩⟩
        · refine congrArg Value.bool (least_bad hlt ?_).symm
          rw [okAt_succ hlt, show followsP l[j] l[j + 1] = false by simpa using hf, Bool.and_false]
        · rw [okAt_succ hlt, hok, show followsP l[j] l[j + 1] = true by simpa using hf]; rfl
      · have hpos := of_decide_eq_false hpos
        have hi0 : i = 0 := by omega
        subst hi0
        rw [okAt_zero hlt, hok]
  · have hge := of_decide_eq_false hge
    have hi : i = l.length := by omega
    rw [hi] at hs
    exact ⟨congrArg Value.bool hs.symm, cx.left⟩

theorem Least_in {Φ : PW} [Stable Φ] (q : Option Addr) (cap : Nat) (l : List LineD) (hΨ : ∀ M w, Φ M w → Sl M w q l) (hlen : l.length ≤ 1000000) :
    GivesIn Φ Try.prog F.difference_Least #[.slice q l.length cap] (.bool (leastP l)) :=
  .pinned hΨ fun g o cs hq => Least_pin (Φ := fun M w => Φ M w ∧ Pin g o cs l M w) q cap l g o cs hq (fun M w h => h.2) hlen

/-! ### the examples -/
abbrev valI (n : Int) : ValD := ⟨0, n, ByteArray.mk #[]⟩
abbrev atP (t n : Int) : DeltaD := ⟨t, [valI n], 1⟩

theorem at_use {W w : World} {S : List Own} {Φ : PW} [Stable Φ] (t n : Int) (hn : I64 n) (cx : Ctx W w S Φ) {K : Ending → World → Prop}
    (hK : ∀ k w', Ctx W w' S (fun M w => Φ M w ∧ Sl M w (some ⟨k, 0, none⟩) [valI n]) → K (.returned (.agg #[.int .i64 t, .slice (some ⟨k, 0, none⟩) 1 1, .int .i64 1])) w') : Calls Try.prog F.erratalaw42_at #[.int .i64 t, .int .i64 n] w K := by
  refine (Berratalaw42_at_run t n (J := fun u w' => K (.returned u) w') cx ?_).mono fun e w' ⟨v, he, hj⟩ => by rw [he]; exact hj
  intro _ k w G cx
  have hel : Gv.rep (dom (Own.blk k [.int .i64 0, .int .i64 n, .string (ByteArray.mk #[])] 48 :: (S ++ G))) w [.int .i64 0, .int .i64 n, .string (ByteArray.mk #[])] (valI n) :=
    ⟨[.int .i64 0], _, rfl, ⟨rfl, by unfold I64; dsimp only; omega⟩, [.int .i64 n], [.string (ByteArray.mk #[])], rfl, ⟨rfl, hn⟩, rfl, Nat.zero_le _⟩
  obtain ⟨cx3, hs⟩ := cx.freezeBlk (α := ValD) (l := [valI n]) (Elems.one hel)
  exact hK k w (cx3.add hs).left

end Go.Proofs.Ytnapfhbibikbiaa
end

/-
  small, walked; the law of lines in plain Lean.
-/
section
set_option linter.unusedVariables false
set_option linter.unusedSimpArgs false
namespace Go.Proofs.Ytnapfhbibikbiaa
open Go.Vc


theorem line_iff {x y : LineD} : x = y ↔ (x.no = y.no ∧ (x.batch = y.batch ∧ (x.time = y.time ∧ (x.row = y.row ∧ (x.n = y.n ∧ (x.cause = y.cause ∧ x.why = y.why)))))) := by cases x; cases y; simp
instance : DecidableEq LineD := fun _ _ => decidable_of_iff _ line_iff.symm

theorem cellL {M : List Nat} {w : World} {g o : Nat} {cs : List (List Value)} {l : List LineD} (h : Pin g o cs l M w) (j k : Nat) (hj : j < l.length) {v : Value} {e : Nat} (he : e = o + j * 7 + k) (hv : ∀ p c, (l[j].cells p c)[k]? = some v) : w.cell? ⟨g, e, none⟩ = some v := by
  obtain ⟨p, c, e1, _⟩ := pin_line h hj
  obtain ⟨hk, hv⟩ := List.getElem?_eq_some_iff.1 (hv p c)
  rw [he, ← hv]
  exact pinl_rowAt h hj e1 k hk
theorem cellD {M : List Nat} {w : World} {g o : Nat} {cs : List (List Value)} {l : List DeltaD} (h : Pin g o cs l M w) (j k : Nat) (hj : j < l.length) {v : Value} {e : Nat} (he : e = o + j * 3 + k) (hv : ∀ p c, (l[j].cells p c)[k]? = some v) : w.cell? ⟨g, e, none⟩ = some v := by
  obtain ⟨p, c, e1, _⟩ := pin_delta h hj
  obtain ⟨hk, hv⟩ := List.getElem?_eq_some_iff.1 (hv p c)
  rw [he, ← hv]
  exact pin_rowAt h hj e1 k hk

abbrev dS : List DeltaD := [⟨5, [valI 1], -1⟩, ⟨5, [valI 2], 1⟩]
abbrev aS : List LineD := [⟨7, 3, 5, [valI 1], -1, 0, 0⟩, ⟨8, 3, 5, [valI 2], 1, 0, 0⟩]
abbrev bS : List LineD := [⟨7, 3, 5, [valI 1], -1, 1, 0⟩, ⟨8, 3, 5, [valI 2], 1, 1, 0⟩]
abbrev cS : List LineD := [⟨7, 3, 5, [valI 1], -1, 2, 2⟩, ⟨8, 3, 5, [valI 2], 1, 2, 2⟩]
theorem dS_is : subP [atP 5 2] [atP 5 1] = dS := by decide
theorem aS_is : linesP 7 3 4 0 dS = aS := by decide
theorem bS_is : linesP 7 3 5 0 dS = bS := by decide
theorem cS_is : linesP 7 3 5 2 dS = cS := by decide
theorem aS_least : leastP aS = true := by decide

theorem at_rep {M : List Nat} {w : World} {k : Nat} {t n : Int} (ht : I64 t) (h : Sl M w (some ⟨k, 0, none⟩) [valI n]) : Gv.rep M w [.int .i64 t, .slice (some ⟨k, 0, none⟩) 1 1, .int .i64 1] (atP t n) :=
  rep_delta (x := atP t n) (Nat.le_refl 1) (by decide) ht (by unfold I64; dsimp only; omega) h

theorem atP_row {t n : Int} : ∀ x ∈ [atP t n], x.row.length ≤ 1000000 := by
  intro x hx; rw [List.mem_singleton.1 hx]; show 1 ≤ 1000000; decide
theorem dS_row : ∀ x ∈ dS, x.row.length ≤ 1000000 := by decide

set_option maxHeartbeats 2000000 in
theorem small_g : Gives Try.prog F.erratalaw42_small #[] (.bool true) := by
  refine gives_of (Berratalaw42_small_run) fun W R Φ hs => ?_
  refine fun w G cx => at_use 5 1 (by unfold I64; omega) cx fun k1 w cx => ⟨5, _, 1, 1, 1, rfl, R, fun M w => Φ M w ∧ Sl M w (some ⟨k1, 0, none⟩) [valI 1], inferInstance, cx, fun k2 w G cx => ?_⟩
  obtain ⟨cx, h1⟩ := cx.freezeBlk (α := DeltaD) (l := [atP 5 1]) (Elems.one (at_rep (by unfold I64; omega) (cx.phi.2)))
  refine at_use 5 2 (by unfold I64; omega) ((cx.add h1).weak fun M w h => (⟨h.1.1, h.2⟩ : Φ M w ∧ Sl M w (some ⟨k2, 0, none⟩) [atP 5 1])) fun k3 w cx => ⟨5, _, 1, 1, 1, rfl, R, fun M w => (Φ M w ∧ Sl M w (some ⟨k2, 0, none⟩) [atP 5 1]) ∧ Sl M w (some ⟨k3, 0, none⟩) [valI 2], inferInstance, cx, fun k4 w G cx => ?_⟩
  obtain ⟨cx, h2⟩ := cx.freezeBlk (α := DeltaD) (l := [atP 5 2]) (Elems.one (at_rep (by unfold I64; omega) (cx.phi.2)))
  refine (Diff_sl (Φ := fun M w => (Φ M w ∧ Sl M w (some ⟨k2, 0, none⟩) [atP 5 1]) ∧ Sl M w (some ⟨k4, 0, none⟩) [atP 5 2]) _ 1 [atP 5 1] _ 1 [atP 5 2] (fun M w h => h.1.2) (fun M w h => h.2) (by decide) (by decide) atP_row atP_row).use ((cx.add h2).weak fun M w h => ⟨h.1.1, h.2⟩) fun p0 c0 w g1 g2 cx => ?_
  clear h1 h2
  rw [dS_is] at cx g1 ⊢
  refine ⟨p0, 2, c0, rfl, R, fun M w => Φ M w ∧ Sl M w p0 dS, inferInstance, cx.weak fun M w h => ⟨h.1.1.1, h.2⟩, fun w G cx => ?_⟩
  refine (Lines_sl (Φ := fun M w => Φ M w ∧ Sl M w p0 dS) p0 c0 dS 7 3 4 0 (fun M w h => h.2) (by unfold I64; omega) (by unfold I64; omega) (by decide) dS_row).use cx fun p1 c1 w f1 f2 cx => ?_
  rw [aS_is] at cx f1 ⊢
  refine ⟨p1, 2, c1, rfl, R, fun M w => (Φ M w ∧ Sl M w p0 dS) ∧ Sl M w p1 aS, inferInstance, cx, fun w G cx => ?_⟩
  refine (Lines_sl (Φ := fun M w => (Φ M w ∧ Sl M w p0 dS) ∧ Sl M w p1 aS) p0 c0 dS 7 3 5 0 (fun M w h => h.1.2) (by unfold I64; omega) (by unfold I64; omega) (by decide) dS_row).use cx fun p2 c2 w f3 f4 cx => ?_
  rw [bS_is] at cx f3 ⊢
  refine ⟨p2, 2, c2, rfl, R, fun M w => ((Φ M w ∧ Sl M w p0 dS) ∧ Sl M w p1 aS) ∧ Sl M w p2 bS, inferInstance, cx, fun w G cx => ?_⟩
  refine (Lines_sl (Φ := fun M w => ((Φ M w ∧ Sl M w p0 dS) ∧ Sl M w p1 aS) ∧ Sl M w p2 bS) p0 c0 dS 7 3 5 2 (fun M w h => h.1.1.2) (by unfold I64; omega) (by unfold I64; omega) (by decide) dS_row).use cx fun p3 c3 w f5 f6 cx => ?_
  rw [cS_is] at cx f5 ⊢
  obtain ⟨gd, od, csd, hpd, cx⟩ := cx.pin cx.phi.1.1.1.2
  have hd := hpd (by decide)
  obtain ⟨ga, oa, csa, hpa, cx⟩ := cx.pin cx.phi.1.1.1.2
  have ha := hpa (by decide)
  obtain ⟨gb, ob, csb, hpb, cx⟩ := cx.pin cx.phi.1.1.1.2
  have hb := hpb (by decide)
  obtain ⟨gc, oc, csc, hpc, cx⟩ := cx.pin cx.phi.1.1.1.2
  have hc := hpc (by decide)
  refine ⟨p3, 2, c3, rfl, R, fun M w => ((((Φ M w ∧ Sl M w p1 aS) ∧ Pin gd od csd dS M w) ∧ Pin ga oa csa aS M w) ∧ Pin gb ob csb bS M w) ∧ Pin gc oc csc cS M w, inferInstance, cx.weak fun M w h => ⟨⟨⟨⟨⟨h.1.1.1.1.1.1.1.1, h.1.1.1.1.1.1.2⟩, h.1.1.1.2⟩, h.1.1.2⟩, h.1.2⟩, h.2⟩, ?_⟩
  clear hpa hpb hpc hpd cx
  refine fun w G cx => Br.intro (fun h => by exfalso; revert h; decide) (fun _ => fun w G cx => ⟨by omega, ptrK_intro gd od hd ⟨-1, cellD cx.phi.1.1.1.2 0 2 (by decide) (by omega) (fun _ _ => rfl), fun _ => by omega, ptrK_intro gd od hd ⟨1, fun _ => cellD cx.phi.1.1.1.2 1 2 (by decide) (by omega) (fun _ _ => rfl), fun _ => by omega, ptrK_intro ga oa ha ⟨7, fun _ => cellL cx.phi.1.1.2 0 0 (by decide) (by omega) (fun _ _ => rfl), fun _ => by omega, ptrK_intro ga oa ha ⟨8, fun _ => cellL cx.phi.1.1.2 1 0 (by decide) (by omega) (fun _ _ => rfl), fun _ => by omega, ptrK_intro ga oa ha ⟨0, fun _ => cellL cx.phi.1.1.2 0 5 (by decide) (by omega) (fun _ _ => rfl), fun _ => by omega, ptrK_intro ga oa ha ⟨3, fun _ => cellL cx.phi.1.1.2 0 1 (by decide) (by omega) (fun _ _ => rfl), Br.intro (fun _ => ?_) (fun h => by exfalso; revert h; decide)⟩⟩⟩⟩⟩⟩⟩)
  refine ⟨by omega, ptrK_intro gb ob hb fun w G cx => ⟨1, cellL cx.phi.1.2 0 5 (by decide) (by omega) (fun _ _ => rfl), Br.intro (fun _ => ?_) (fun h => by exfalso; revert h; decide)⟩⟩
  refine ⟨by omega, ptrK_intro gc oc hc fun w G cx => ⟨2, cellL cx.phi.2 1 5 (by decide) (by omega) (fun _ _ => rfl), Br.intro (fun _ => ?_) (fun h => by exfalso; revert h; decide)⟩⟩
  refine ⟨by omega, ptrK_intro gc oc hc fun w G cx => ⟨2, cellL cx.phi.2 1 6 (by decide) (by omega) (fun _ _ => rfl), Br.intro (fun _ => ?_) (fun h => by exfalso; revert h; decide)⟩⟩
  have hcall := Least_in (Φ := fun M w => ((((Φ M w ∧ Sl M w p1 aS) ∧ Pin gd od csd dS M w) ∧ Pin ga oa csa aS M w) ∧ Pin gb ob csb bS M w) ∧ Pin gc oc csc cS M w) p1 c1 aS (fun M w h => h.1.1.1.1.2) (by decide)
  rw [aS_least] at hcall
  exact fun w G cx => hcall.use cx fun w cx => ⟨true, rfl, R, Φ, inferInstance, cx.weak fun M w h => h.1.1.1.1.1, fun w G cx => ⟨rfl, cx.left⟩⟩

end Go.Proofs.Ytnapfhbibikbiaa
end

/-
  Concat, Add, Consolidated, walked.
-/
section
set_option linter.unusedVariables false
set_option linter.unusedSimpArgs false
namespace Go.Vc
section
variable {W w : World} {S : List Own} {Φ : PW}

/-- append of new zeroes to nothing, taken as room -/
theorem Ctx.grow0 [Stable Φ] {P : Program} (c : Ctx W w S Φ) {ts tn ty t : TypeId} {kb : Array Bool} {size bytes : Nat} (hb : appB P ts t size bytes = true) (htn : P.underlying tn = some (.int .i64)) (m : Nat) (h0 : 0 < m) (hm : m ≤ 1000000) (hpos : 0 < size) (hbytes : bytes ≤ 1000) :
    ∃ g cap' w', Sem.run P (builtin Builtin.append #[ts, tn] ty kb #[.slice none 0 0, .int .i64 m]) w = .ok (.value (.slice (some ⟨g, 0, none⟩) m cap')) w' ∧ m ≤ cap' ∧ Ctx W w' (.buf (some ⟨g, 0, none⟩) 0 cap' [] t size :: S) Φ := by
  obtain ⟨i, z, e1, e2, e3, e4, e5, e6⟩ := appB_out hb
  subst e4
  have hmb : m * i.bytes ≤ 1000000 * 1000 := Nat.mul_le_mul hm (by omega)
  have hr := Go.Lib.run_append_nil_zeros (P := P) w ts tn ty t i z .i64 .i64 e1 htn e2 e3 m h0 hpos (by omega) (by omega)
  have hge := grownCap_ge w m 0 t
  have hcm : grownCap w m 0 t ≤ maxLen := grownCap_le_maxLen w m 0 t (by simp only [maxLen]; omega)
  have h := (c.buf0 t i.size).upd (k := 0) (o' := .buf (some ⟨w.heap.size, 0, none⟩) 0 (grownCap w m 0 t) [] t i.size) rfl (((Chg.refl _ _).drewN 1).alloc (.cells (Builtin.zeroCells z.cells m ++ Builtin.zeroCells z.cells (grownCap w m 0 t - m)) t)) (by simp [Own.dom]) (by simp [Own.dom])
    ⟨by simp, .inr ⟨w.heap.size, _, _, rfl, Nat.zero_le _, hp_alloc_new w.drew _, Nat.zero_le _, hcm, by
      simp only [Array.size_append, size_zeroCells, e5, ← Nat.add_mul]
      congr 1
      omega, by simp⟩⟩
  exact ⟨_, _, _, run_app hr, hge, h⟩

/-- append a slice of plain data, perhaps empty -/
theorem Ctx.appAny [Stable Φ] {P : Program} {α : Type} [Gv α] {q : Option Addr} {l : List α} {c2 : Nat} {p : Option Addr} {n cap : Nat} {cs : List Value} {t : TypeId} {bytes : Nat} (c : Ctx W w (.buf p n cap cs t (Gv.ty α).size :: S) Φ)
    {ts ty : TypeId} {kb : Array Bool} (hb : appB P ts t (Gv.ty α).size bytes = true) (h1 : ∀ M w cs (x : α), Gv.rep M w cs x → (cs.all fun u => oneC u) = true) (hsl : ∀ M w, Φ M w → Sl M w q l) (hlen : n + l.length < 100000000) (hbytes : bytes ≤ 1000) :
    ∃ p' cap' w' news, Sem.run P (builtin Builtin.append #[ts, ts] ty kb #[.slice p n cap, .slice q l.length c2]) w = .ok (.value (.slice p' (n + l.length) cap')) w' ∧
      Ctx W w' (.buf p' (n + l.length) cap' (cs ++ news) t (Gv.ty α).size :: S) (fun M w => Φ M w ∧ Elems M w news l) := by
  rcases Nat.eq_zero_or_pos l.length with h0 | h0
  · obtain ⟨i, z, e1, e2, e3, e4, e5, e6⟩ := appB_out hb
    have hl : l = [] := List.eq_nil_of_length_eq_zero h0
    subst hl
    refine ⟨p, cap, w, [], run_app (c.append0 0 rfl e1 e2 q c2), ?_⟩
    rw [List.append_nil]
    exact c.add Elems.nil
  · obtain ⟨p', cap', w', news, h2, _, c3⟩ := c.appSl (ty := ty) (kb := kb) (c2 := c2) hb h1 hsl h0 hlen hbytes
    exact ⟨p', cap', w', news, h2, c3⟩

end
end Go.Vc

namespace Go.Proofs.Ytnapfhbibikbiaa
open Go.Vc


theorem pin_ll {M : List Nat} {w : World} {g o : Nat} {cs : List (List Value)} {ls : List (List DeltaD)} (h : Pin g o cs ls M w) {j : Nat} (hj : j < ls.length) : ∃ p c, cs.getD j [] = [.slice p ls[j].length c] ∧ ls[j].length ≤ c ∧ c ≤ maxLen := by
  obtain ⟨_, h1, h2⟩ := h j hj
  obtain ⟨p, c, e, g1, g2, _⟩ := rep_list.1 h2
  exact ⟨p, c, e, g1, g2⟩
theorem pin_llSl {M : List Nat} {w : World} {g o : Nat} {cs : List (List Value)} {ls : List (List DeltaD)} (h : Pin g o cs ls M w) {j : Nat} (hj : j < ls.length) {p : Option Addr} {c : Nat} (e : cs.getD j [] = [.slice p ls[j].length c]) : Sl M w p ls[j] := by
  obtain ⟨_, h1, h2⟩ := h j hj
  obtain ⟨p', c', e', g1, g2, hs⟩ := rep_list.1 h2
  rw [e] at e'
  simp only [List.cons.injEq, Value.slice.injEq] at e'
  rw [e'.1.1]
  exact hs
theorem pin_llAt {M : List Nat} {w : World} {g o : Nat} {cs : List (List Value)} {ls : List (List DeltaD)} (h : Pin g o cs ls M w) {j : Nat} (hj : j < ls.length) {p : Option Addr} {c : Nat} (e : cs.getD j [] = [.slice p ls[j].length c]) : w.cell? ⟨g, o + j, none⟩ = some (.slice p ls[j].length c) := by
  obtain ⟨_, h1, h2⟩ := h j hj
  rw [e] at h1
  have := h1 0 (by simp)
  rw [show (Gv.ty (List DeltaD)).size = 1 from rfl, Nat.mul_one] at this
  simpa using this

theorem flat_take (ls : List (List DeltaD)) {i : Nat} (h : i < ls.length) : (ls.take (i + 1)).flatten = (ls.take i).flatten ++ ls[i] := by
  rw [List.take_succ_eq_append_getElem h, List.flatten_append]
  simp
theorem flat_le (ls : List (List DeltaD)) (i : Nat) : (ls.take i).flatten.length ≤ ls.flatten.length := by
  have h : ls.flatten = (ls.take i).flatten ++ (ls.drop i).flatten := by rw [← List.flatten_append, List.take_append_drop]
  rw [h, List.length_append]
  omega

theorem Grow_use {W w : World} {S : List Own} {Φ : PW} [Stable Φ] (n : Nat) (hn : n ≤ 1000000) (cx : Ctx W w S Φ) {K : Ending → World → Prop}
    (hK : ∀ p cap w', Ctx W w' (.buf p 0 cap [] 38 3 :: S) Φ → K (.returned (.slice p 0 cap)) w') : Calls Try.prog F.slices_Grow_api_Delta_api_Delta #[.slice none 0 0, .int .i64 n] w K := by
  refine (Bslices_Grow_api_Delta_api_Delta_run none 0 0 n (J := fun u w' => K (.returned u) w') cx ?_).mono fun e w' ⟨v, he, hj⟩ => by rw [he]; exact hj
  refine Br.intro (fun h => by have := of_decide_eq_true h; omega) (fun _ => ⟨by unfold I64; omega, by unfold I64; omega, Br.intro (fun h => ⟨by omega, fun w G cx => ?_⟩) (fun h => fun w G cx => hK _ _ _ (cx.left.buf0 38 3))⟩)
  have h := of_decide_eq_true h
  obtain ⟨g, cap', w', hrun, hge, cx'⟩ := Ctx.grow0 (P := Try.prog) (ts := 22) (tn := 3) (ty := 22) (t := 38) (kb := #[false, false]) (size := 3) (bytes := 40) cx (by kernel_rfl) (by kernel_rfl) n (by omega) hn (by omega) (by omega)
  have e : (n : Int) - (((0 : Nat) : Int) - ((0 : Nat) : Int)) = n := by omega
  rw [e]
  refine ⟨_, _, _, _, hrun, .buf (some ⟨g, 0, none⟩) 0 cap' [] 38 3 :: S, Φ, inferInstance, cx', by omega, fun w G cx => ?_⟩
  have hp : subPtr (some ⟨g, 0, none⟩) 3 0 cap' = some ⟨g, 0, none⟩ := by
    unfold subPtr
    split <;> rfl
  show K (.returned (.slice (subPtr (some ⟨g, 0, none⟩) 3 0 cap') 0 cap')) w
  rw [hp]
  exact hK _ _ _ cx.left

set_option maxHeartbeats 1000000 in
theorem Concat_pin {Φ : PW} [Stable Φ] (q : Option Addr) (cap : Nat) (ls : List (List DeltaD)) (g o : Nat) (cs : List (List Value)) (hq : 0 < ls.length → q = some ⟨g, o, none⟩) (hΦ : ∀ M w, Φ M w → Pin g o cs ls M w) (hn : ls.length ≤ 1000000) (hlen : ls.flatten.length ≤ 1000000) :
    GivesNew Φ Try.prog F.slices_Concat_api_Delta_api_Delta #[.slice q ls.length cap] ls.flatten 38 := by
  refine ⟨fun W0 w0 S0 c0 => ?_⟩
  have hcs : ∀ j, (hj : j < ls.length) → ∃ p c, cs.getD j [] = [.slice p ls[j].length c] ∧ ls[j].length ≤ c ∧ c ≤ maxLen := fun j hj => pin_ll (hΦ _ _ c0.phi) hj
  refine GivesNew.go (gives_new (Bslices_Concat_api_Delta_api_Delta_run q ls.length cap) fun W R => ?_) W0 w0 S0 c0
  clear c0
  refine exI_mk (fun n iI R' Φ' k => ∃ i : Nat, iI = i ∧ i ≤ ls.length ∧ n = ((ls.take i).flatten.length : Int) ∧ R' = R ∧ Φ' = Φ ∧ k = ls.length - i) ⟨⟨R, Φ, _, inferInstance, fun w G cx => cx, 0, rfl, Nat.zero_le _, rfl, rfl, rfl, rfl⟩, ?_⟩
  rintro n iI R1 Φ1 k _ ⟨i, rfl, hi, rfl, rfl, rfl, rfl⟩
  refine Br.intro (fun hlt => ?_) (fun hge => ?_)
  · have hlt := of_decide_eq_true hlt
    have hlt : i < ls.length := by omega
    obtain ⟨p, c, he, h1, h2⟩ := hcs i hlt
    have hf := flat_take ls hlt
    have hfl : (ls.take (i + 1)).flatten.length = (ls.take i).flatten.length + ls[i].length := by rw [hf, List.length_append]
    have hle := flat_le ls (i + 1)
    refine ⟨by omega, ptrK_intro g o (hq (by omega)) fun w G cx => ⟨p, ls[i].length, c, by rw [Int.toNat_natCast]; exact pin_llAt (hΦ _ _ cx.phi) hlt he, by unfold I64; omega, Br.intro (fun h => by have := of_decide_eq_true h; omega) (fun _ => ⟨by unfold I64; omega, R1, Φ1, ls.length - (i + 1), inferInstance, fun w G cx => cx, ⟨i + 1, by omega, hlt, by omega, rfl, rfl, rfl⟩, by omega⟩)⟩⟩
  have hge := of_decide_eq_false hge
  have hi : i = ls.length := by omega
  subst hi
  rw [List.take_length]
  clear hge
  refine fun w G cx => Grow_use ls.flatten.length hlen cx fun p0 cap0 w cx => ⟨p0, 0, cap0, rfl, .buf p0 0 cap0 [] 38 3 :: R1, Φ1, inferInstance, cx, ?_⟩
  clear cx
  refine exI_mk (fun sp sn sc iI R' Φ' k => ∃ (i : Nat) (ds : List Value), iI = i ∧ i ≤ ls.length ∧ sn = (ls.take i).flatten.length ∧ R' = .buf sp sn sc ds 38 3 :: R1 ∧ Φ' = (fun M w => Φ1 M w ∧ Elems M w ds (ls.take i).flatten) ∧ k = ls.length - i)
    ⟨⟨.buf p0 0 cap0 [] 38 3 :: R1, fun M w => Φ1 M w ∧ Elems M w [] (ls.take 0).flatten, _, inferInstance, fun w G cx => cx.weak fun M w h => ⟨h, Elems.nil⟩, 0, [], rfl, Nat.zero_le _, rfl, rfl, rfl, rfl⟩, ?_⟩
  rintro sp _ sc iI R2 Φ2 k _ ⟨i, ds, rfl, hi, rfl, rfl, rfl, rfl⟩
  refine Br.intro (fun hlt => ?_) (fun hge => fun w G cx => ?_)
  · have hlt := of_decide_eq_true hlt
    have hlt : i < ls.length := by omega
    obtain ⟨p, c, he, h1, h2⟩ := hcs i hlt
    have hf := flat_take ls hlt
    have hfl : (ls.take (i + 1)).flatten.length = (ls.take i).flatten.length + ls[i].length := by rw [hf, List.length_append]
    have hle := flat_le ls (i + 1)
    refine ⟨by omega, ptrK_intro g o (hq (by omega)) fun w G cx => ⟨p, ls[i].length, c, by rw [Int.toNat_natCast]; exact pin_llAt (hΦ _ _ cx.phi.1) hlt he, fun w G cx => ?_⟩⟩
    have happ := Ctx.appAny (P := Try.prog) (ts := 22) (ty := 22) (kb := #[false, false]) (bytes := 40) (c2 := c) (l := ls[i]) (q := p) cx (by kernel_rfl) delta_one (fun M w h => pin_llSl (hΦ M w h.1) hlt he) (by omega) (by omega)
    rw [← hfl] at happ
    obtain ⟨p', cap', w', news, hrun, cx'⟩ := happ
    have hst : Stable (fun M w => Φ1 M w ∧ Elems M w (ds ++ news) (ls.take (i + 1)).flatten) := inferInstance
    exact ⟨p', _, cap', w', hrun, .buf p' (ls.take (i + 1)).flatten.length cap' (ds ++ news) 38 3 :: R1, _, hst, cx'.weak fun M w h => ⟨h.1.1, by rw [hf]; exact h.1.2.append h.2⟩, by unfold I64; omega, _, _, ls.length - (i + 1), hst, fun w G cx => cx, ⟨i + 1, _, by omega, hlt, rfl, rfl, rfl, rfl⟩, by omega⟩
  · have hge := of_decide_eq_false hge
    have hi : i = ls.length := by omega
    subst hi
    rw [List.take_length] at cx ⊢
    exact ⟨sp, sc, ds, rfl, cx.left⟩

def addP (a b : List DeltaD) : List DeltaD := consP (a ++ b)

theorem Add_sl {Φ : PW} [Stable Φ] (p : Option Addr) (cap : Nat) (a : List DeltaD) (q : Option Addr) (cap2 : Nat) (b : List DeltaD) (hΦ : ∀ M w, Φ M w → Sl M w p a) (hΨ : ∀ M w, Φ M w → Sl M w q b) (hc1 : a.length ≤ cap) (hc2 : cap ≤ maxLen) (hc3 : b.length ≤ cap2) (hc4 : cap2 ≤ maxLen)
    (ha : a.length ≤ 400000) (hb : b.length ≤ 400000) (hra : ∀ x ∈ a, x.row.length ≤ 1000000) (hrb : ∀ x ∈ b, x.row.length ≤ 1000000) : GivesSl Φ Try.prog F.delta_Add #[.slice p a.length cap, .slice q b.length cap2] (addP a b) id := by
  refine gives_sl (Bdelta_Add_run p a.length cap q b.length cap2) fun W R => ?_
  intro k w G cx
  obtain ⟨cx1, hs⟩ := cx.freezeBlk (α := List DeltaD) (l := [a, b]) (Elems.two (cs := [.slice p a.length cap]) (ds := [.slice q b.length cap2]) (rep_list.2 ⟨p, cap, rfl, hc1, hc2, hΦ _ _ cx.phi⟩) (rep_list.2 ⟨q, cap2, rfl, hc3, hc4, hΨ _ _ cx.phi⟩))
  have hfl : [a, b].flatten = a ++ b := by simp
  have hll : (a ++ b).length ≤ 1000000 := by rw [List.length_append]; omega
  have cx1' : Ctx W w (R ++ G) (fun M w => Φ M w ∧ Sl M w (some ⟨k, 0, none⟩) [a, b]) := cx1.add hs
  obtain ⟨g, o, cs, hq, cx2⟩ := cx1'.pin cx1'.phi.2
  have hcon := Concat_pin (Φ := fun M w => (Φ M w ∧ Sl M w (some ⟨k, 0, none⟩) [a, b]) ∧ Pin g o cs [a, b] M w) (some ⟨k, 0, none⟩) 2 [a, b] g o cs hq (fun M w h => h.2) (by simp) (by rw [hfl]; exact hll)
  rw [hfl] at hcon
  refine hcon.use cx2 fun p1 c1 ds w cx => ?_
  obtain ⟨_, h1, h2⟩ := cx.bufLen 0 rfl
  obtain ⟨cx3, hs3, _⟩ := Ctx.freeze (α := DeltaD) cx.fst cx.phi.2
  refine ⟨p1, _, c1, rfl, R, fun M w => Φ M w ∧ Sl M w p1 (a ++ b), inferInstance, (cx3.add hs3).weak fun M w h => ⟨h.1.1.1, h.2⟩, fun w G cx => ?_⟩
  refine (Consolidate_sl (Φ := fun M w => Φ M w ∧ Sl M w p1 (a ++ b)) p1 c1 (a ++ b) (fun M w h => h.2) hll (fun x hx => ?_)).use cx fun p3 c3 w h1 h2 cx => ⟨p3, _, c3, rfl, R, fun M w => Φ M w ∧ Sl M w p3 (addP a b), inferInstance, cx.weak fun M w h => ⟨h.1.1, h.2⟩, fun w G cx => ⟨p3, c3, rfl, h1, h2, cx.left⟩⟩
  rcases List.mem_append.1 hx with hx | hx
  · exact hra x hx
  · exact hrb x hx

end Go.Proofs.Ytnapfhbibikbiaa
end

/-
  Consolidated, walked; DifferenceLeast in plain Lean, and walked.
-/
section
set_option linter.unusedVariables false
set_option linter.unusedSimpArgs false
namespace Go.Proofs.Ytnapfhbibikbiaa
open Go.Vc


def consAt (l : List DeltaD) (j : Nat) : Bool := match l[j]? with
  | none => false
  | some y => decide (y.n ≠ 0) && match j with
    | 0 => true
    | i + 1 => match l[i]? with
      | none => false
      | some x => decide (cmpD x y < 0)
def consolidated (l : List DeltaD) : Bool := (List.range l.length).all fun j => consAt l j

theorem consolidated_false {l : List DeltaD} {j : Nat} (hj : j < l.length) (h : consAt l j = false) : consolidated l = false := by
  unfold consolidated
  rw [List.all_eq_false]
  exact ⟨j, List.mem_range.2 hj, by rw [h]; simp⟩
theorem consolidated_true {l : List DeltaD} (h : ∀ j, j < l.length → consAt l j = true) : consolidated l = true := by
  unfold consolidated
  rw [List.all_eq_true]
  exact fun j hj => h j (List.mem_range.1 hj)

theorem Consolidated_pin {Φ : PW} [Stable Φ] (p : Option Addr) (cap : Nat) (l : List DeltaD) (b o : Nat) (cs : List (List Value)) (hp : 0 < l.length → p = some ⟨b, o, none⟩) (hΦ : ∀ M w, Φ M w → Pin b o cs l M w) (hlen : l.length ≤ 9223372036854775807) :
    GivesIn Φ Try.prog F.delta_Consolidated #[.slice p l.length cap] (.bool (consolidated l)) := by
  refine in_cells hΦ fun hcs => ?_
  refine gives_in (Bdelta_Consolidated_run p l.length cap) fun W R => ?_
  refine exI_mk (fun n R' Φ' k => ∃ i : Nat, n = i ∧ i ≤ l.length ∧ R' = R ∧ Φ' = Φ ∧ k = l.length - i ∧ ∀ j, j < i → consAt l j = true) ⟨⟨R, Φ, _, inferInstance, fun w F c => c, 0, rfl, Nat.zero_le _, rfl, rfl, rfl, fun j hj => by omega⟩, ?_⟩
  rintro n R1 Φ1 k _ ⟨i, rfl, hi, rfl, rfl, rfl, hok⟩
  refine Br.intro (fun hlt => ?_) (fun hge => fun w F cx => ⟨?_, cx.left⟩)
  · have hlt : i < l.length := by simpa using hlt
    have hp := hp (by omega)
    obtain ⟨q, qc, he, hq1, hq2, _, _⟩ := hcs i hlt
    refine ⟨by omega, ptrK_intro b o hp fun w G cx => ⟨_, q, _, qc, _, pin_rowAt (hΦ _ _ cx.phi) hlt he, fun _ => ⟨R1, Φ1, inferInstance, fun _ _ c => c, Br.intro (fun h0 => fun w F cx => ⟨?_, cx.left⟩) (fun h0 => Br.intro (fun h1 => ?_) (fun h1 => ?_))⟩⟩⟩
    · have h0 : l[i].n = 0 := by simpa using h0
      rw [consolidated_false hlt]
      unfold consAt
      rw [List.getElem?_eq_getElem hlt]
      simp [h0]
    · have h0 : ¬ l[i].n = 0 := by simpa using h0
      have h1 : 0 < i := by simpa using h1
      obtain ⟨j, rfl⟩ : ∃ j, i = j + 1 := ⟨i - 1, by omega⟩
      obtain ⟨q', qc', he', hq1', hq2', _, _⟩ := hcs j (by omega)
      have hc : consAt l (j + 1) = decide (cmpD l[j] l[j + 1] < 0) := by
        unfold consAt
        simp only
        rw [List.getElem?_eq_getElem hlt, List.getElem?_eq_getElem (show j < l.length by omega)]
        simp [h0]
      have hcmp : GivesIn Φ1 Try.prog F.delta_compare #[l[j].v q' qc', l[j + 1].v q qc] (.int .i64 (cmpD l[j] l[j + 1])) := compareD_in l[j] l[j + 1] q' q qc' qc (fun M w h => pin_row (hΦ M w h) _ he') (fun M w h => pin_row (hΦ M w h) _ he) (len_max hq1' hq2')
      refine ⟨by unfold I64; omega, by omega, ptrK_intro b o hp ⟨l[j].time, q', l[j].row.length, qc', l[j].n, ?_, ?_⟩⟩
      · intro w F cx
        refine ⟨l[j].time, q', l[j].row.length, qc', l[j].n, ?_, rfl⟩
        have := pin_rowAt (hΦ _ _ cx.phi) (show j < l.length by omega) he'
        rw [show (((j + 1 : Nat) : Int) - 1).toNat = j by omega]
        exact this
      intro w F cx
      refine hcmp.use cx fun w cx => ⟨cmpD l[j] l[j + 1], rfl, R1, Φ1, inferInstance, cx, ?_⟩
      refine Br.intro (fun h2 => fun w F cx => ⟨?_, cx.left⟩) (fun h2 => ⟨by unfold I64; omega, R1, Φ1, l.length - (j + 1 + 1), inferInstance, fun w F c => c, ⟨j + 1 + 1, rfl, hlt, rfl, rfl, rfl, fun i hi => ?_⟩, by omega⟩)
      · have h2 : 0 ≤ cmpD l[j] l[j + 1] := by simpa using h2
        rw [consolidated_false hlt]
        rw [hc, decide_eq_false (by omega)]
      · have h2 : ¬ 0 ≤ cmpD l[j] l[j + 1] := by simpa using h2
        rcases Nat.lt_or_ge i (j + 1) with h | h
        · exact hok i h
        · rw [show i = j + 1 by omega, hc, decide_eq_true (by omega)]
    · have h0 : ¬ l[i].n = 0 := by simpa using h0
      have h1 : i = 0 := by simpa using h1
      subst h1
      refine ⟨by unfold I64; omega, R1, Φ1, l.length - 1, inferInstance, fun w F c => c, ⟨1, rfl, hlt, rfl, rfl, rfl, fun i hi => ?_⟩, by omega⟩
      rw [show i = 0 by omega]
      unfold consAt
      simp only
      rw [List.getElem?_eq_getElem hlt]
      simp [h0]
  · have hge : i = l.length := Nat.le_antisymm hi (by simpa using hge)
    rw [consolidated_true (hge ▸ hok)]

theorem Consolidated_in {Φ : PW} [Stable Φ] (p : Option Addr) (cap : Nat) (l : List DeltaD) (hΦ : ∀ M w, Φ M w → Sl M w p l) (hlen : l.length ≤ 9223372036854775807) :
    GivesIn Φ Try.prog F.delta_Consolidated #[.slice p l.length cap] (.bool (consolidated l)) :=
  .pinned hΦ fun b o cs hp => Consolidated_pin (Φ := fun M w => Φ M w ∧ Pin b o cs l M w) p cap l b o cs hp (fun _ _ h => h.2) hlen


theorem norm_cons {l : List DeltaD} (h : Norm l) : consolidated l = true := consolidated_true fun j hj => by
  unfold consAt
  rw [List.getElem?_eq_getElem hj]
  have h0 : decide (l[j].n ≠ 0) = true := decide_eq_true (h.nz _ (List.getElem_mem _))
  cases j with
  | zero => simp only [h0, Bool.true_and]
  | succ i =>
    simp only [h0, Bool.true_and, List.getElem?_eq_getElem (show i < l.length by omega)]
    exact decide_eq_true (List.pairwise_iff_getElem.1 h.asc i (i + 1) (by omega) hj (by omega))

theorem sumK_neg (k : Key) : ∀ a : List DeltaD, (sumK (a.map negD) k + sumK a k) % 18446744073709551616 = 0
  | [] => rfl
  | x :: a => by
    have ih := sumK_neg k a
    have h := w64_mod (0 - x.n)
    show ((if (negD x).key = k then (negD x).n else 0) + sumK (a.map negD) k + ((if x.key = k then x.n else 0) + sumK a k)) % 18446744073709551616 = 0
    have e1 : (negD x).key = x.key := rfl
    have e2 : (negD x).n = w64 (0 - x.n) := rfl
    rw [e1, e2]
    by_cases hk : x.key = k
    · rw [if_pos hk, if_pos hk]; omega
    · rw [if_neg hk, if_neg hk]; omega

theorem find_neg (a : List DeltaD) (k : Key) : findP (a.map negD) k = w64 (-(findP a k)) := by
  unfold findP
  apply w64_cong
  have := sumK_neg k a
  have := w64_mod (sumK a k)
  omega

theorem find_cons (l : List DeltaD) (k : Key) : findP (consP l) k = findP l k := (consP_norm l).2 k
theorem find_sub (a b : List DeltaD) (k : Key) : findP (subP a b) k = w64 (findP a k - findP b k) := by
  unfold subP
  rw [find_cons, findP_app, find_neg, w64_r, ← Int.sub_eq_add_neg]
theorem find_add (a b : List DeltaD) (k : Key) : findP (addP a b) k = w64 (findP a k + findP b k) := by
  unfold addP
  rw [find_cons, findP_app]
theorem find_w (a : List DeltaD) (k : Key) : w64 (findP a k) = findP a k := by unfold findP; rw [w64_w]

theorem add_sub (a b : List DeltaD) : consP (addP a (subP b a)) = consP b := consP_eq fun k => by
  rw [find_add, find_sub, w64_r, show findP a k + (findP b k - findP a k) = findP b k by omega, find_w]
theorem sub_self (a : List DeltaD) : subP a a = [] := by
  have h : ∀ k, findP [] k = findP (subP a a) k := fun k => by
    rw [find_sub, Int.sub_self]; rfl
  have := consP_is (l := subP a a) Norm.nil h
  rwa [show consP (subP a a) = subP a a from consP_cons _] at this
theorem sub_add (a way : List DeltaD) : subP (addP a way) a = consP way := by
  have h : consP (subP (addP a way) a) = consP way := consP_eq fun k => by
    rw [find_sub, find_add, Int.sub_eq_add_neg, w64_l, show findP a k + findP way k + -findP a k = findP way k by omega, find_w]
  rwa [show consP (subP (addP a way) a) = subP (addP a way) a from consP_cons _] at h
theorem sub_sub (a b c : List DeltaD) : consP (addP (subP b a) (subP c b)) = consP (subP c a) := consP_eq fun k => by
  rw [find_add, find_sub, find_sub, find_sub, w64_l, w64_r]
  congr 1
  omega

theorem subP_len (a b : List DeltaD) : (subP a b).length ≤ a.length + b.length := by
  have := consP_len (a ++ b.map negD)
  rw [List.length_append, List.length_map] at this
  exact this
theorem addP_len (a b : List DeltaD) : (addP a b).length ≤ a.length + b.length := by
  have := consP_len (a ++ b)
  rw [List.length_append] at this
  exact this
abbrev Rows1 (l : List DeltaD) : Prop := ∀ x ∈ l, x.row.length ≤ 1000000
theorem subP_row {a b : List DeltaD} (ha : Rows1 a) (hb : Rows1 b) : Rows1 (subP a b) := fun z hz => consP_row (P := fun r => r.length ≤ 1000000) (fun x hx => by
  rcases List.mem_append.1 hx with hx | hx
  · exact ha x hx
  · obtain ⟨y, hy, rfl⟩ := List.mem_map.1 hx
    exact hb y hy) z hz
theorem addP_row {a b : List DeltaD} (ha : Rows1 a) (hb : Rows1 b) : Rows1 (addP a b) := fun z hz => consP_row (P := fun r => r.length ≤ 1000000) (fun x hx => by
  rcases List.mem_append.1 hx with hx | hx
  · exact ha x hx
  · exact hb x hx) z hz

end Go.Proofs.Ytnapfhbibikbiaa
end

/-
  DifferenceLeast, walked.
-/
section
set_option linter.unusedVariables false
set_option linter.unusedSimpArgs false
namespace Go.Proofs.Ytnapfhbibikbiaa
open Go.Vc


theorem SameV_in {Φ : PW} [Stable Φ] (p : Option Addr) (cap : Nat) (a : List DeltaD) (q : Option Addr) (cap2 : Nat) (b : List DeltaD) (v : consP a = consP b) (hΦ : ∀ M w, Φ M w → Sl M w p a) (hΨ : ∀ M w, Φ M w → Sl M w q b)
    (ha : a.length ≤ 400000) (hb : b.length ≤ 400000) (hra : Rows1 a) (hrb : Rows1 b) : GivesIn Φ Try.prog F.delta_Same #[.slice p a.length cap, .slice q b.length cap2] (.bool true) := by
  have h := Same_in p cap a q cap2 b hΦ hΨ ha hb hra hrb
  rwa [decide_eq_true v] at h

set_option maxHeartbeats 2000000 in
theorem LeastLaw_in {Φ : PW} [Stable Φ] (p : Option Addr) (cap : Nat) (a : List DeltaD) (q : Option Addr) (cap2 : Nat) (b : List DeltaD) (r : Option Addr) (cap3 : Nat) (way : List DeltaD)
    (hA : ∀ M w, Φ M w → Sl M w p a) (hB : ∀ M w, Φ M w → Sl M w q b) (hW : ∀ M w, Φ M w → Sl M w r way) (ha1 : a.length ≤ cap) (ha2 : cap ≤ maxLen) (hb1 : b.length ≤ cap2) (hb2 : cap2 ≤ maxLen) (hw1 : way.length ≤ cap3) (hw2 : cap3 ≤ maxLen) :
    GivesIn Φ Try.prog F.erratalaw42_DifferenceLeast #[.slice p a.length cap, .slice q b.length cap2, .slice r way.length cap3] (.bool true) := by
  refine gives_in (Berratalaw42_DifferenceLeast_run p a.length cap q b.length cap2 r way.length cap3) fun W R => ?_
  refine fun w G cx => small_g.use cx fun w cx => ⟨true, rfl, R, Φ, inferInstance, cx, fun w G cx => (Right42_in p cap a 50 hA (len_max ha1 ha2)).use cx fun w cx => ⟨_, rfl, R, Φ, inferInstance, cx, Br.intro (fun hr => fun w G cx => ⟨rfl, cx.left⟩) (fun hr => ?_)⟩⟩
  obtain ⟨al, ar⟩ := right42 (by simpa only [Bool.not_eq_false'] using hr)
  clear cx hr
  refine fun w G cx => (Right42_in q cap2 b 50 hB (len_max hb1 hb2)).use cx fun w cx => ⟨_, rfl, R, Φ, inferInstance, cx, Br.intro (fun hr => fun w G cx => ⟨rfl, cx.left⟩) (fun hr => ?_)⟩
  obtain ⟨bl, br⟩ := right42 (by simpa only [Bool.not_eq_false'] using hr)
  clear cx hr
  refine fun w G cx => (Right42_in r cap3 way 50 hW (len_max hw1 hw2)).use cx fun w cx => ⟨_, rfl, R, Φ, inferInstance, cx, Br.intro (fun hr => fun w G cx => ⟨rfl, cx.left⟩) (fun hr => ?_)⟩
  obtain ⟨wl, wr⟩ := right42 (by simpa only [Bool.not_eq_false'] using hr)
  clear cx hr
  have ha : Rows1 a := fun x hx => Nat.le_trans (ar x hx) (by decide)
  have hb : Rows1 b := fun x hx => Nat.le_trans (br x hx) (by decide)
  have hw : Rows1 way := fun x hx => Nat.le_trans (wr x hx) (by decide)
  obtain ⟨d, hd⟩ : ∃ d, subP b a = d := ⟨_, rfl⟩
  have dl : d.length ≤ 100 := by have := subP_len b a; rw [hd] at this; omega
  have dr : Rows1 d := by rw [← hd]; exact subP_row hb ha
  have dn : Norm d := by rw [← hd]; exact (consP_norm _).1
  refine fun w G cx => (Diff_sl p cap a q cap2 b hA hB (by omega) (by omega) ha hb).use cx fun p1 c1 w g1 g2 cx => ?_
  rw [hd] at g1 cx ⊢
  refine ⟨p1, _, c1, rfl, R, fun M w => Φ M w ∧ Sl M w p1 d, inferInstance, cx, fun w G cx => ?_⟩
  obtain ⟨e1, he1⟩ : ∃ e, addP a d = e := ⟨_, rfl⟩
  have e1l : e1.length ≤ 200 := by have := addP_len a d; rw [he1] at this; omega
  have e1r : Rows1 e1 := by rw [← he1]; exact addP_row ha dr
  have e1s : consP e1 = consP b := by rw [← he1, ← hd]; exact add_sub a b
  refine (Add_sl (Φ := fun M w => Φ M w ∧ Sl M w p1 d) p cap a p1 c1 d (fun M w h => hA M w h.1) (fun M w h => h.2) ha1 ha2 g1 g2 (by omega) (by omega) ha dr).use cx fun p2 c2 w f1 f2 cx => ?_
  rw [he1] at f1 cx ⊢
  have hst1 : Stable (fun M w => (Φ M w ∧ Sl M w p1 d) ∧ Sl M w p2 e1) := inferInstance
  refine ⟨p2, _, c2, rfl, R, _, hst1, cx, fun w G cx => (SameV_in (Φ := fun M w => (Φ M w ∧ Sl M w p1 d) ∧ Sl M w p2 e1) p2 c2 e1 q cap2 b e1s (fun M w h => h.2) (fun M w h => hB M w h.1.1) (by omega) (by omega) e1r hb).use cx fun w cx => ⟨true, rfl, R, fun M w => Φ M w ∧ Sl M w p1 d, inferInstance, cx.weak fun M w h => h.1, Br.intro (fun h => by cases h) (fun _ => ?_)⟩⟩
  clear cx hst1 f1 f2
  have hcon := Consolidated_in (Φ := fun M w => Φ M w ∧ Sl M w p1 d) p1 c1 d (fun M w h => h.2) (len_max g1 g2)
  rw [norm_cons dn] at hcon
  refine fun w G cx => hcon.use cx fun w cx => ⟨true, rfl, R, fun M w => Φ M w ∧ Sl M w p1 d, inferInstance, cx, Br.intro (fun h => by cases h) (fun _ => fun w G cx => ?_)⟩
  have hself := Diff_sl (Φ := fun M w => Φ M w ∧ Sl M w p1 d) p cap a p cap a (fun M w h => hA M w h.1) (fun M w h => hA M w h.1) (by omega) (by omega) ha ha
  rw [sub_self] at hself
  refine hself.use cx fun p3 c3 w _ _ cx => ⟨p3, 0, c3, rfl, R, fun M w => Φ M w ∧ Sl M w p1 d, inferInstance, cx.weak fun M w h => h.1, Br.intro (fun h => by exfalso; revert h; decide) (fun _ => ?_)⟩
  clear cx hself hcon
  obtain ⟨c, hc⟩ : ∃ c, addP a way = c := ⟨_, rfl⟩
  have cl : c.length ≤ 100 := by have := addP_len a way; rw [hc] at this; omega
  have cr : Rows1 c := by rw [← hc]; exact addP_row ha hw
  refine fun w G cx => (Add_sl (Φ := fun M w => Φ M w ∧ Sl M w p1 d) p cap a r cap3 way (fun M w h => hA M w h.1) (fun M w h => hW M w h.1) ha1 ha2 hw1 hw2 (by omega) (by omega) ha hw).use cx fun p4 c4 w f1 f2 cx => ?_
  rw [hc] at f1 cx ⊢
  have hst2 : Stable (fun M w => (Φ M w ∧ Sl M w p1 d) ∧ Sl M w p4 c) := inferInstance
  refine ⟨p4, _, c4, rfl, R, _, hst2, cx, fun w G cx => ?_⟩
  obtain ⟨e, he⟩ : ∃ e, subP c a = e := ⟨_, rfl⟩
  have hew : e = consP way := by rw [← he, ← hc]; exact sub_add a way
  have el : e.length ≤ way.length := by rw [hew]; exact consP_len way
  have er : Rows1 e := by rw [← he]; exact subP_row cr ha
  refine (Diff_sl (Φ := fun M w => (Φ M w ∧ Sl M w p1 d) ∧ Sl M w p4 c) p cap a p4 c4 c (fun M w h => hA M w h.1.1) (fun M w h => h.2) (by omega) (by omega) ha cr).use cx fun p5 c5 w k1 k2 cx => ?_
  rw [he] at k1 cx ⊢
  have hst3 : Stable (fun M w => ((Φ M w ∧ Sl M w p1 d) ∧ Sl M w p4 c) ∧ Sl M w p5 e) := inferInstance
  refine ⟨p5, _, c5, rfl, R, _, hst3, cx, Br.intro (fun _ => Br.intro (fun _ => fun w G cx => ?_) (fun h => by have := of_decide_eq_false h; omega)) (fun h => by cases h)⟩
  obtain ⟨f, hf⟩ : ∃ f, subP c b = f := ⟨_, rfl⟩
  have fl : f.length ≤ 150 := by have := subP_len c b; rw [hf] at this; omega
  have fr : Rows1 f := by rw [← hf]; exact subP_row cr hb
  refine (Diff_sl (Φ := fun M w => ((Φ M w ∧ Sl M w p1 d) ∧ Sl M w p4 c) ∧ Sl M w p5 e) q cap2 b p4 c4 c (fun M w h => hB M w h.1.1.1) (fun M w h => h.1.2) (by omega) (by omega) hb cr).use cx fun p6 c6 w m1 m2 cx => ?_
  rw [hf] at m1 cx ⊢
  have hst4 : Stable (fun M w => (((Φ M w ∧ Sl M w p1 d) ∧ Sl M w p4 c) ∧ Sl M w p5 e) ∧ Sl M w p6 f) := inferInstance
  refine ⟨p6, _, c6, rfl, R, _, hst4, cx, fun w G cx => ?_⟩
  obtain ⟨s, hs⟩ : ∃ s, addP d f = s := ⟨_, rfl⟩
  have sl : s.length ≤ 250 := by have := addP_len d f; rw [hs] at this; omega
  have sr : Rows1 s := by rw [← hs]; exact addP_row dr fr
  have ss : consP s = consP e := by rw [← hs, ← hd, ← hf, ← he]; exact sub_sub a b c
  refine (Add_sl (Φ := fun M w => (((Φ M w ∧ Sl M w p1 d) ∧ Sl M w p4 c) ∧ Sl M w p5 e) ∧ Sl M w p6 f) p1 c1 d p6 c6 f (fun M w h => h.1.1.1.2) (fun M w h => h.2) g1 g2 m1 m2 (by omega) (by omega) dr fr).use cx fun p7 c7 w n1 n2 cx => ?_
  rw [hs] at n1 cx ⊢
  have hst5 : Stable (fun M w => ((((Φ M w ∧ Sl M w p1 d) ∧ Sl M w p4 c) ∧ Sl M w p5 e) ∧ Sl M w p6 f) ∧ Sl M w p7 s) := inferInstance
  refine ⟨p7, _, c7, rfl, R, _, hst5, cx, fun w G cx => ?_⟩
  refine (SameV_in (Φ := fun M w => ((((Φ M w ∧ Sl M w p1 d) ∧ Sl M w p4 c) ∧ Sl M w p5 e) ∧ Sl M w p6 f) ∧ Sl M w p7 s) p7 c7 s p5 c5 e ss (fun M w h => h.2) (fun M w h => h.1.1.2) (by omega) (by omega) sr er).use cx fun w cx => ⟨true, rfl, R, Φ, inferInstance, cx.weak fun M w h => h.1.1.1.1.1, fun w G cx => ⟨rfl, cx.left⟩⟩

end Go.Proofs.Ytnapfhbibikbiaa
end

section
set_option linter.unusedVariables false
set_option linter.unusedSimpArgs false
namespace Go.Proofs.Ytnapfhbibikbiaa
open Go.ChangeShapes Go.WideShapes Go.ChangeAt Go.RowKit Go.Vc

theorem df_own : ownKnob Try.prog.godebug = none := by kernel_rfl
theorem df_laid : laidOutB Try.prog = true := by kernel_rfl

set_option maxRecDepth 100000 in
theorem least_lifted (os : Os) (started : os.Started) (H : Type) (enc : TypeId × Value → H) :
    ReturnsInHanded {} Try.checked os 4 .any (Rows.differenceLeastSpec.pre6 enc Try.prog Try.f4 Rows.differenceLeastRow.domain false) (Rows.differenceLeastSpec.post enc Try.prog Try.f4 false true false false) := by
  refine lawTrue (C := Try.checked) (tb := 4) df_own started (by kernel_rfl) Try.func4 df_laid rfl ?_ rfl Try.underlying4 (by kernel_rfl)
    (ChangeSpec.witness6 (enc := enc) (C := Try.checked) false ⟨#[], #[.slice none 0 0, .slice none 0 0, .slice none 0 0], []⟩ 8 (by kernel_rfl) (by kernel_rfl) (by kernel_rfl) (by kernel_rfl)) ?_
  · intro ds hd
    match ds, hd with
    | [_, _, _], _ => exact ⟨rfl, rfl, rfl⟩
  · intro W base args ds p hval0 hA0 _
    have hval : ∀ (j : Nat) t v, Try.f4.params[j]? = some t → args[j]? = some v → Value.okWide Try.prog W .any base t v := hval0
    have hA : DataW.TrodAll enc Try.prog W 0 (fun _ => true) true Try.f4.params.toList args.toList ds p := hA0
    rw [Try.params4] at hA hval
    obtain ⟨v0, v1, v2, d0, d1, d2, p0, p1, p2, rfl, rfl, rfl, h0, h1, h2⟩ := trodAll_three hA
    obtain ⟨lp, lcap, l, rfl, l1, l2, s1⟩ := open_sl (α := DeltaD) 12 Try.underlying22 (hval 0 22 v0 rfl rfl) (by kernel_rfl) h0
    obtain ⟨mp, mcap, m, rfl, l3, l4, s2⟩ := open_sl (α := DeltaD) 12 Try.underlying22 (hval 1 22 v1 rfl rfl) (by kernel_rfl) h1
    obtain ⟨np, ncap, n, rfl, l5, l6, s3⟩ := open_sl (α := DeltaD) 12 Try.underlying22 (hval 2 22 v2 rfl rfl) (by kernel_rfl) h2
    have hst1 := instStableSl lp l
    have hst2 := instStableSl mp m
    have hst3 := instStableSl np n
    have hst4 : Stable (fun M w => Sl M w mp m ∧ Sl M w np n) := instStableAnd (fun M w => Sl M w mp m) (fun M w => Sl M w np n)
    have hst : Stable (fun M w => Sl M w lp l ∧ Sl M w mp m ∧ Sl M w np n) := instStableAnd (fun M w => Sl M w lp l) (fun M w => Sl M w mp m ∧ Sl M w np n)
    exact (LeastLaw_in (Φ := fun M w => Sl M w lp l ∧ Sl M w mp m ∧ Sl M w np n) lp lcap l mp mcap m np ncap n (fun _ _ h => h.1) (fun _ _ h => h.2.1) (fun _ _ h => h.2.2) l1 l2 l3 l4 l5 l6).law ⟨s1, s2, s3⟩

theorem least_holds : Rows.DifferenceLeastSaid :=
  OpenClaim.holds_of_wide 4 Try.f4 rfl rfl rfl rfl rfl rfl rfl ⟨rfl, rfl, rfl, rfl, rfl⟩ rfl rfl rfl rfl rfl (by kernel_rfl) Try.func4 (by kernel_rfl)
    (of_decide_eq_true (by kernel_rfl)) (by unfold Func.isWrapper; first | (rw [if_pos (by decide +kernel)]; kernel_rfl) | (rw [if_neg (by decide +kernel)]; exact ⟨rfl, rfl⟩))
    (fun os started H enc _ => least_lifted os started H enc)

end Go.Proofs.Ytnapfhbibikbiaa
end

