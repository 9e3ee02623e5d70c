/-
  The walks of the comparisons, and of what is right, for values, rows, deltas and messages.
-/
import Derived.Test.YticgmbmghnikeaaVa
set_option linter.unusedVariables false
set_option linter.unusedSimpArgs false
namespace Go.Proofs.Yticgmbmghnikeaa
open Go.Vc

theorem compareBytes_bd : ∀ a b : List UInt8, -1 ≤ Lib.compareBytes a b ∧ Lib.compareBytes a b ≤ 1
  | [], [] => by simp [Lib.compareBytes]
  | [], _ :: _ => by simp [Lib.compareBytes]
  | _ :: _, [] => by simp [Lib.compareBytes]
  | a :: ar, b :: br => by
    unfold Lib.compareBytes
    split
    · omega
    · split
      · omega
      · exact compareBytes_bd ar br

theorem cmpI_bd (x y : Int) : -1 ≤ cmpI x y ∧ cmpI x y ≤ 1 := by
  unfold cmpI; split; omega; split <;> omega

theorem orI_bd {a b : Int} : ∀ (l : List Int), a ≤ 0 → 0 ≤ b → (∀ x ∈ l, a ≤ x ∧ x ≤ b) → a ≤ orI l ∧ orI l ≤ b
  | [], h1, h2, _ => ⟨h1, h2⟩
  | x :: r, h1, h2, h => by
    unfold orI
    split
    · exact h x (by simp)
    · exact orI_bd r h1 h2 fun y hy => h y (by simp [hy])

def cmpT (a b : ByteArray) : Int := Lib.compareBytes a.data.toList b.data.toList
abbrev cmpL (x y : ValD) : List Int := [cmpI x.kind y.kind, cmpI x.num y.num, cmpT x.text y.text]
def cmpV (x y : ValD) : Int := orI (cmpL x y)

theorem cmpV_bd (x y : ValD) : -1 ≤ cmpV x y ∧ cmpV x y ≤ 1 := orI_bd _ (by omega) (by omega) fun u hu => by
  have h1 := cmpI_bd x.kind y.kind
  have h2 := cmpI_bd x.num y.num
  have h3 := compareBytes_bd x.text.data.toList y.text.data.toList
  simp only [cmpL, List.mem_cons, List.not_mem_nil, or_false] at hu
  rcases hu with rfl | rfl | rfl
  · exact h1
  · exact h2
  · exact h3

theorem I64_bd {x : Int} (h : -1 ≤ x ∧ x ≤ 1) : I64 x := by unfold I64; omega

theorem ints_elems {M : List Nat} {w : World} : ∀ (l : List Int), (∀ x ∈ l, I64 x) → Elems M w (l.map fun x => .int .i64 x) l := by
  intro l h
  refine ⟨by simp [show (Gv.ty Int).size = 1 from rfl], fun j hj => ?_⟩
  rw [show (Gv.ty Int).size = 1 from rfl, Nat.mul_one, rep_int]
  refine ⟨?_, h _ (List.getElem_mem _)⟩
  apply List.ext_getElem?
  intro i
  rcases i with _ | i
  · rw [List.getElem?_take_of_lt (by omega), List.getElem?_drop]; simp [hj]
  · simp; omega

theorem tcmp_g (x y : ByteArray) : Gives Try.prog F.strings_Compare #[.string x, .string y] (.int .i64 (cmpT x y)) :=
  Quiet.gives ⟨fun w => strings_Compare x y w⟩

/-- a made block of ints, handed to cmp.Or -/
theorem or_blk {W w : World} {S : List Own} {Φ : PW} [Stable Φ] {k : Nat} {t : TypeId} (l : List Int) (cap : Nat) (hl : ∀ x ∈ l, I64 x) (hlen : l.length ≤ 1000000) (c : Ctx W w (.blk k (l.map fun x => .int .i64 x) t :: S) Φ)
    {K : Ending → World → Prop} (hk : ∀ w', Ctx W w' S Φ → K (.returned (.int .i64 (orI l))) w') : Calls Try.prog F.cmp_Or_int #[.slice (some ⟨k, 0, none⟩) l.length cap] w K := by
  obtain ⟨c', hs⟩ := c.freezeBlk (ints_elems l hl)
  exact (or_in (Φ := fun M w => Φ M w ∧ Sl M w (some ⟨k, 0, none⟩) l) (some ⟨k, 0, none⟩) cap l (fun _ _ h => h.2) hlen).use (c'.add hs) fun w' c => hk w' c.fst

theorem cmpV_g (x y : ValD) : Gives Try.prog F.value_Compare #[x.v, y.v] (.int .i64 (cmpV x y)) := by
  refine gives_of (Bvalue_Compare_run x.kind x.num x.text y.kind y.num y.text) fun W R Φ _ => ?_
  refine fun _ _ => ⟨R, Φ, inferInstance, fun _ _ c => c, fun w F c => (cmp_g _ _).use c fun w c => ⟨_, rfl, R, Φ, inferInstance, c, fun _ _ c => c, fun w F c => (cmp_g _ _).use c fun w c => ⟨_, rfl, R, Φ, inferInstance, c, fun _ _ c => c, fun w F c => (tcmp_g _ _).use c fun w c => ⟨_, rfl, R, Φ, inferInstance, c, fun _ _ c => c, fun k => ⟨fun w F c => c.drop1, fun w F c => ?_⟩⟩⟩⟩⟩
  refine or_blk (cmpL x y) 3 (fun u hu => ?_) (by simp) c fun w c => ⟨_, rfl, R, Φ, inferInstance, c, fun _ _ c => c, fun w F c => ⟨rfl, c.left⟩⟩
  simp only [cmpL, List.mem_cons, List.not_mem_nil, or_false] at hu
  rcases hu with rfl | rfl | rfl
  · exact I64_bd (cmpI_bd _ _)
  · exact I64_bd (cmpI_bd _ _)
  · exact I64_bd (compareBytes_bd _ _)

def cmpR : List ValD → List ValD → Int
  | [], [] => 0
  | [], _ :: _ => -1
  | _ :: _, [] => 1
  | x :: r, y :: s => if cmpV x y ≠ 0 then cmpV x y else cmpR r s

theorem cmpR_bd : ∀ a b : List ValD, -1 ≤ cmpR a b ∧ cmpR a b ≤ 1
  | [], [] => by simp [cmpR]
  | [], _ :: _ => by simp [cmpR]
  | _ :: _, [] => by simp [cmpR]
  | a :: ar, b :: br => by
    unfold cmpR
    split
    · exact cmpV_bd a b
    · exact cmpR_bd ar br

theorem cmpR_left {l r : List ValD} {i : Nat} (hi : i < l.length) (hr : r.length ≤ i) : cmpR (l.drop i) (r.drop i) = 1 := by
  rw [List.drop_eq_getElem_cons hi, List.drop_of_length_le hr]; rfl
theorem cmpR_both {l r : List ValD} {i : Nat} (hi : i < l.length) (hr : i < r.length) : cmpR (l.drop i) (r.drop i) = if cmpV l[i] r[i] ≠ 0 then cmpV l[i] r[i] else cmpR (l.drop (i + 1)) (r.drop (i + 1)) := by
  rw [List.drop_eq_getElem_cons hi, List.drop_eq_getElem_cons hr]; rfl

theorem CompareRows_in {Φ : PW} [Stable Φ] (p q : Option Addr) (cap cap2 : Nat) (l r : List ValD) (hΦ : ∀ M w, Φ M w → Sl M w p l) (hΨ : ∀ M w, Φ M w → Sl M w q r) (hlen : l.length ≤ 9223372036854775807) :
    GivesIn Φ Try.prog F.value_CompareRows #[.slice p l.length cap, .slice q r.length cap2] (.int .i64 (cmpR l r)) := by
  refine .there (fun M w h => (hΦ M w h).there) fun hth => .there (fun M w h => (hΨ M w h).there) fun hth2 => ?_
  refine gives_in (Bvalue_CompareRows_run p l.length cap q r.length cap2) fun W R => fun w0 F0 c0 => ?_
  refine GivesIn.use ?_ c0 fun w c => ⟨_, rfl, R, Φ, inferInstance, c, fun w F c => ⟨rfl, c.left⟩⟩
  refine gives_in (Bslices_CompareFunc_api_Value__api_Value_api_Value_api_Value_run p l.length cap q r.length cap2 50 #[]) fun W R => ?_
  refine exI_mk (fun n R' Φ' k => ∃ i : Nat, n = i ∧ i ≤ l.length ∧ i ≤ r.length ∧ R' = R ∧ Φ' = Φ ∧ k = l.length - i ∧ cmpR l r = cmpR (l.drop i) (r.drop i)) ⟨⟨R, Φ, _, inferInstance, fun w F c => c, 0, rfl, Nat.zero_le _, Nat.zero_le _, rfl, rfl, rfl, rfl⟩, ?_⟩
  rintro n R1 Φ1 k _ ⟨i, rfl, hi, hr, rfl, rfl, rfl, hcm⟩
  refine Br.intro (fun hlt => ?_) (fun hge => ?_)
  · have hlt : i < l.length := by simpa using hlt
    obtain ⟨b, o, rfl⟩ := hth (by omega)
    refine ⟨by omega, ptrK_intro b o rfl fun w F cx => ⟨_, _, _, sl_val (hΦ _ _ cx.phi) hlt, fun _ => Br.intro (fun h => fun w F cx => ⟨?_, cx.left⟩) (fun h => ?_)⟩⟩
    · have h : r.length ≤ i := by simpa using h
      rw [hcm, cmpR_left hlt h]
    · have h : i < r.length := by simpa using h
      obtain ⟨b2, o2, rfl⟩ := hth2 (by omega)
      rw [cmpR_both hlt h] at hcm
      refine ⟨by omega, ptrK_intro b2 o2 rfl fun w F cx => ⟨_, _, _, sl_val (hΨ _ _ cx.phi) h, fun _ w F cx => ⟨by kernel_rfl, (cmpV_g l[i] r[i]).use cx fun w cx => ⟨_, rfl, R1, Φ1, inferInstance, cx, Br.intro (fun hn => fun w F cx => ⟨?_, cx.left⟩) (fun hn => ⟨by unfold I64; omega, R1, Φ1, l.length - (i + 1), inferInstance, fun w F c => c, ⟨i + 1, rfl, hlt, h, rfl, rfl, rfl, ?_⟩, by omega⟩)⟩⟩⟩⟩
      · have hn : cmpV l[i] r[i] ≠ 0 := by simpa using hn
        rw [hcm, if_pos hn]
      · have hn : ¬ cmpV l[i] r[i] ≠ 0 := by simpa using hn
        rw [hcm, if_neg hn]
  · have hge : i = l.length := Nat.le_antisymm hi (by simpa using hge)
    subst hge
    refine Br.intro (fun h => fun w F cx => ⟨?_, cx.left⟩) (fun h => fun w F cx => ⟨?_, cx.left⟩)
    · have h : l.length < r.length := by simpa using h
      rw [hcm, List.drop_length, List.drop_eq_getElem_cons h]; rfl
    · have h : ¬ l.length < r.length := by simpa using h
      rw [hcm, List.drop_length, List.drop_of_length_le (by omega)]; rfl

/-! ### deltas -/
abbrev DeltaD.v (x : DeltaD) (p : Option Addr) (c : Nat) : Value := .agg #[.int .i64 x.time, .slice p x.row.length c, .int .i64 x.n]
abbrev DeltaD.cells (x : DeltaD) (p : Option Addr) (c : Nat) : List Value := [.int .i64 x.time, .slice p x.row.length c, .int .i64 x.n]
abbrev cmpDL (x y : DeltaD) : List Int := [cmpI x.time y.time, cmpR x.row y.row]
def cmpD (x y : DeltaD) : Int := orI (cmpDL x y)

theorem cmpD_bd (x y : DeltaD) : -1 ≤ cmpD x y ∧ cmpD x y ≤ 1 := orI_bd _ (by omega) (by omega) fun u hu => by
  have h1 := cmpI_bd x.time y.time
  have h2 := cmpR_bd x.row y.row
  simp only [cmpDL, List.mem_cons, List.not_mem_nil, or_false] at hu
  rcases hu with rfl | rfl
  · exact h1
  · exact h2

theorem delta_cells {M : List Nat} {w : World} {cs : List Value} {x : DeltaD} (h : Gv.rep M w cs x) : ∃ p c, cs = x.cells p c ∧ x.row.length ≤ c ∧ c ≤ maxLen ∧ I64 x.time ∧ I64 x.n ∧ Sl M w p x.row := by
  obtain ⟨_, _, rfl, ⟨rfl, ht⟩, _, _, rfl, ⟨p, c, rfl, h1, h2, h3⟩, rfl, hn⟩ := h
  exact ⟨p, c, rfl, h1, h2, ht, hn, h3⟩

theorem rep_delta {M : List Nat} {w : World} {x : DeltaD} {p : Option Addr} {c : Nat} (h1 : x.row.length ≤ c) (h2 : c ≤ maxLen) (h3 : I64 x.time) (h4 : I64 x.n) (h5 : Sl M w p x.row) : Gv.rep M w (x.cells p c) x :=
  ⟨[.int .i64 x.time], [.slice p x.row.length c, .int .i64 x.n], rfl, ⟨rfl, h3⟩, [.slice p x.row.length c], [.int .i64 x.n], rfl, ⟨p, c, rfl, h1, h2, h5⟩, rfl, h4⟩

theorem delta_row {M : List Nat} {w : World} {x : DeltaD} {p : Option Addr} {c : Nat} (h : Gv.rep M w (x.cells p c) x) : Sl M w p x.row := by
  obtain ⟨p', c', e, _, _, _, _, h1⟩ := delta_cells h
  simp only [DeltaD.cells, List.cons.injEq, Value.slice.injEq] at e
  rw [e.2.1.1]
  exact h1

theorem compareD_in {Φ : PW} [Stable Φ] (x y : DeltaD) (p q : Option Addr) (cap cap2 : Nat) (hΦ : ∀ M w, Φ M w → Sl M w p x.row) (hΨ : ∀ M w, Φ M w → Sl M w q y.row) (hlen : x.row.length ≤ 9223372036854775807) :
    GivesIn Φ Try.prog F.delta_compare #[x.v p cap, y.v q cap2] (.int .i64 (cmpD x y)) := by
  refine gives_in (Bdelta_compare_run x.time p x.row.length cap x.n y.time q y.row.length cap2 y.n) fun W R => ?_
  refine fun _ _ => ⟨R, Φ, inferInstance, fun _ _ c => c, fun w F c => (cmp_g _ _).use c fun w c => ⟨_, rfl, R, Φ, inferInstance, c, fun _ _ c => c, fun w F c => (CompareRows_in p q cap cap2 x.row y.row hΦ hΨ hlen).use c fun w c => ⟨_, rfl, R, Φ, inferInstance, c, fun _ _ c => c, fun k => ⟨fun w F c => c.drop1, fun w F c => ?_⟩⟩⟩⟩
  refine or_blk (cmpDL x y) 2 (fun u hu => ?_) (by simp) c fun w c => ⟨_, rfl, R, Φ, inferInstance, c, fun _ _ c => c, fun w F c => ⟨rfl, c.left⟩⟩
  simp only [cmpDL, List.mem_cons, List.not_mem_nil, or_false] at hu
  rcases hu with rfl | rfl
  · exact I64_bd (cmpI_bd _ _)
  · exact I64_bd (cmpR_bd _ _)

def consAt (l : List DeltaD) (j : Nat) : Bool := match l[j]? with
  | none => false
  | some y => decide (y.n ≠ 0) && match j with
    | 0 => true
    | i + 1 => match l[i]? with
      | none => false
      | some x => decide (cmpD x y < 0)
def consolidated (l : List DeltaD) : Bool := (List.range l.length).all fun j => consAt l j

theorem consolidated_false {l : List DeltaD} {j : Nat} (hj : j < l.length) (h : consAt l j = false) : consolidated l = false := by
  unfold consolidated
  rw [List.all_eq_false]
  exact ⟨j, List.mem_range.2 hj, by rw [h]; simp⟩
theorem consolidated_true {l : List DeltaD} (h : ∀ j, j < l.length → consAt l j = true) : consolidated l = true := by
  unfold consolidated
  rw [List.all_eq_true]
  exact fun j hj => h j (List.mem_range.1 hj)

theorem pin_delta {M : List Nat} {w : World} {b o : Nat} {cs : List (List Value)} {l : List DeltaD} (h : Pin b o cs l M w) {j : Nat} (hj : j < l.length) : ∃ p c, cs.getD j [] = l[j].cells p c ∧ l[j].row.length ≤ c ∧ c ≤ maxLen ∧ I64 l[j].time ∧ I64 l[j].n ∧ RowAt w b (o + j * 3) (l[j].cells p c) := by
  obtain ⟨_, h1, h2⟩ := h j hj
  obtain ⟨p, c, e, g1, g2, g3, g4, _⟩ := delta_cells h2
  exact ⟨p, c, e, g1, g2, g3, g4, by rw [e] at h1; exact h1⟩

theorem pin_row {M : List Nat} {w : World} {b o : Nat} {cs : List (List Value)} {l : List DeltaD} (h : Pin b o cs l M w) {j : Nat} (hj : j < l.length) {p : Option Addr} {c : Nat} (e : cs.getD j [] = l[j].cells p c) : Sl M w p l[j].row := by
  have := (h j hj).2.2
  rw [e] at this
  exact delta_row this

theorem pin_rowAt {M : List Nat} {w : World} {b o : Nat} {cs : List (List Value)} {l : List DeltaD} (h : Pin b o cs l M w) {j : Nat} (hj : j < l.length) {p : Option Addr} {c : Nat} (e : cs.getD j [] = l[j].cells p c) : RowAt w b (o + j * 3) (l[j].cells p c) := by
  have := (h j hj).2.1
  rw [e] at this
  exact this

/-- the pinned cells, for good -/
theorem in_cells {Φ : PW} {f : FuncId} {args : Array Value} {v : Value} {b o : Nat} {cs : List (List Value)} {l : List DeltaD} (hΦ : ∀ M w, Φ M w → Pin b o cs l M w)
    (h : (∀ j, (hj : j < l.length) → ∃ p c, cs.getD j [] = l[j].cells p c ∧ l[j].row.length ≤ c ∧ c ≤ maxLen ∧ I64 l[j].time ∧ I64 l[j].n) → GivesIn Φ Try.prog f args v) : GivesIn Φ Try.prog f args v :=
  ⟨fun W w S c => (h fun j hj => by obtain ⟨p, c, h1, h2, h3, h4, h5, _⟩ := pin_delta (hΦ _ _ c.phi) hj; exact ⟨p, c, h1, h2, h3, h4, h5⟩).go W w S c⟩

theorem len_max {n c : Nat} (h1 : n ≤ c) (h2 : c ≤ maxLen) : n ≤ 9223372036854775807 := Nat.le_trans h1 (Nat.le_trans h2 (by decide))

theorem Consolidated_pin {Φ : PW} [Stable Φ] (p : Option Addr) (cap : Nat) (l : List DeltaD) (b o : Nat) (cs : List (List Value)) (hp : 0 < l.length → p = some ⟨b, o, none⟩) (hΦ : ∀ M w, Φ M w → Pin b o cs l M w) (hlen : l.length ≤ 9223372036854775807) :
    GivesIn Φ Try.prog F.delta_Consolidated #[.slice p l.length cap] (.bool (consolidated l)) := by
  refine in_cells hΦ fun hcs => ?_
  refine gives_in (Bdelta_Consolidated_run p l.length cap) fun W R => ?_
  refine exI_mk (fun n R' Φ' k => ∃ i : Nat, n = i ∧ i ≤ l.length ∧ R' = R ∧ Φ' = Φ ∧ k = l.length - i ∧ ∀ j, j < i → consAt l j = true) ⟨⟨R, Φ, _, inferInstance, fun w F c => c, 0, rfl, Nat.zero_le _, rfl, rfl, rfl, fun j hj => by omega⟩, ?_⟩
  rintro n R1 Φ1 k _ ⟨i, rfl, hi, rfl, rfl, rfl, hok⟩
  refine Br.intro (fun hlt => ?_) (fun hge => fun w F cx => ⟨?_, cx.left⟩)
  · have hlt : i < l.length := by simpa using hlt
    have hp := hp (by omega)
    obtain ⟨q, qc, he, hq1, hq2, _, _⟩ := hcs i hlt
    refine ⟨by omega, ptrK_intro b o hp fun w G cx => ⟨_, q, _, qc, _, pin_rowAt (hΦ _ _ cx.phi) hlt he, fun _ => ⟨R1, Φ1, inferInstance, fun _ _ c => c, Br.intro (fun h0 => fun w F cx => ⟨?_, cx.left⟩) (fun h0 => Br.intro (fun h1 => ?_) (fun h1 => ?_))⟩⟩⟩
    · have h0 : l[i].n = 0 := by simpa using h0
      rw [consolidated_false hlt]
      unfold consAt
      rw [List.getElem?_eq_getElem hlt]
      simp [h0]
    · have h0 : ¬ l[i].n = 0 := by simpa using h0
      have h1 : 0 < i := by simpa using h1
      obtain ⟨j, rfl⟩ : ∃ j, i = j + 1 := ⟨i - 1, by omega⟩
      obtain ⟨q', qc', he', hq1', hq2', _, _⟩ := hcs j (by omega)
      have hc : consAt l (j + 1) = decide (cmpD l[j] l[j + 1] < 0) := by
        unfold consAt
        simp only
        rw [List.getElem?_eq_getElem hlt, List.getElem?_eq_getElem (show j < l.length by omega)]
        simp [h0]
      have hcmp : GivesIn Φ1 Try.prog F.delta_compare #[l[j].v q' qc', l[j + 1].v q qc] (.int .i64 (cmpD l[j] l[j + 1])) := compareD_in l[j] l[j + 1] q' q qc' qc (fun M w h => pin_row (hΦ M w h) _ he') (fun M w h => pin_row (hΦ M w h) _ he) (len_max hq1' hq2')
      refine ⟨by unfold I64; omega, by omega, ptrK_intro b o hp ⟨l[j].time, q', l[j].row.length, qc', l[j].n, ?_, ?_⟩⟩
      · intro w F cx
        refine ⟨l[j].time, q', l[j].row.length, qc', l[j].n, ?_, rfl⟩
        have := pin_rowAt (hΦ _ _ cx.phi) (show j < l.length by omega) he'
        rw [show (((j + 1 : Nat) : Int) - 1).toNat = j by omega]
        exact this
      intro w F cx
      refine hcmp.use cx fun w cx => ⟨cmpD l[j] l[j + 1], rfl, R1, Φ1, inferInstance, cx, fun _ _ c => c, ?_⟩
      refine Br.intro (fun h2 => fun w F cx => ⟨?_, cx.left⟩) (fun h2 => ⟨by unfold I64; omega, R1, Φ1, l.length - (j + 1 + 1), inferInstance, fun w F c => c, ⟨j + 1 + 1, rfl, hlt, rfl, rfl, rfl, fun i hi => ?_⟩, by omega⟩)
      · have h2 : 0 ≤ cmpD l[j] l[j + 1] := by simpa using h2
        rw [consolidated_false hlt]
        rw [hc, decide_eq_false (by omega)]
      · have h2 : ¬ 0 ≤ cmpD l[j] l[j + 1] := by simpa using h2
        rcases Nat.lt_or_ge i (j + 1) with h | h
        · exact hok i h
        · rw [show i = j + 1 by omega, hc, decide_eq_true (by omega)]
    · have h0 : ¬ l[i].n = 0 := by simpa using h0
      have h1 : i = 0 := by simpa using h1
      subst h1
      refine ⟨by unfold I64; omega, R1, Φ1, l.length - 1, inferInstance, fun w F c => c, ⟨1, rfl, hlt, rfl, rfl, rfl, fun i hi => ?_⟩, by omega⟩
      rw [show i = 0 by omega]
      unfold consAt
      simp only
      rw [List.getElem?_eq_getElem hlt]
      simp [h0]
  · have hge : i = l.length := Nat.le_antisymm hi (by simpa using hge)
    rw [consolidated_true (hge ▸ hok)]

theorem Consolidated_in {Φ : PW} [Stable Φ] (p : Option Addr) (cap : Nat) (l : List DeltaD) (hΦ : ∀ M w, Φ M w → Sl M w p l) (hlen : l.length ≤ 9223372036854775807) :
    GivesIn Φ Try.prog F.delta_Consolidated #[.slice p l.length cap] (.bool (consolidated l)) :=
  .pinned hΦ fun b o cs hp => Consolidated_pin (Φ := fun M w => Φ M w ∧ Pin b o cs l M w) p cap l b o cs hp (fun _ _ h => h.2) hlen

theorem IndexD_in {Φ : PW} [Stable Φ] (p : Option Addr) (cap : Nat) (l : List DeltaD) (b o : Nat) (cs : List (List Value)) (f : FuncId) (q : DeltaD → Bool) (hp : 0 < l.length → p = some ⟨b, o, none⟩) (hΦ : ∀ M w, Φ M w → Pin b o cs l M w) (hlen : l.length ≤ 9223372036854775807) (hf : okFun Try.prog f = true)
    (hq : ∀ j, (hj : j < l.length) → ∀ r c, cs.getD j [] = l[j].cells r c → l[j].row.length ≤ c → c ≤ maxLen → GivesIn Φ Try.prog f #[l[j].v r c] (.bool (q l[j]))) :
    GivesIn Φ Try.prog F.slices_IndexFunc_api_Delta_api_Delta #[.slice p l.length cap, .func (.func f) #[] #[]] (.int .i64 (findI q 0 l)) := by
  refine in_cells hΦ fun hcs => ?_
  refine gives_in (Bslices_IndexFunc_api_Delta_api_Delta_run p l.length cap f #[]) fun W R => ?_
  refine exI_mk (fun n R' Φ' k => ∃ i : Nat, n = i ∧ i ≤ l.length ∧ R' = R ∧ Φ' = Φ ∧ k = l.length - i ∧ findI q 0 l = findI q i (l.drop i)) ⟨⟨R, Φ, _, inferInstance, fun w F c => c, 0, rfl, Nat.zero_le _, rfl, rfl, rfl, rfl⟩, ?_⟩
  rintro n R1 Φ1 k _ ⟨i, rfl, hi, rfl, rfl, rfl, hor⟩
  refine Br.intro (fun hlt => ?_) (fun hge => fun w F cx => ⟨?_, cx.left⟩)
  · have hlt : i < l.length := by simpa using hlt
    rw [findI_drop q l i hlt] at hor
    obtain ⟨r, rc, he, hq1, hq2, _, _⟩ := hcs i hlt
    refine ⟨by omega, ptrK_intro b o (hp (by omega)) fun w F cx => ⟨_, r, _, rc, _, pin_rowAt (hΦ _ _ cx.phi) hlt he, fun w F cx => ⟨hf, (hq i hlt r rc he hq1 hq2).use cx fun w cx => ⟨_, rfl, R1, Φ1, inferInstance, cx, Br.intro (fun h => fun w F cx => ⟨?_, cx.left⟩) (fun h => ⟨by unfold I64; omega, R1, Φ1, l.length - (i + 1), inferInstance, fun w F c => c, ⟨i + 1, rfl, hlt, rfl, rfl, rfl, ?_⟩, by omega⟩)⟩⟩⟩⟩
    · rw [hor, if_pos h]
    · rw [hor, if_neg (by rw [h]; simp)]
  · have hge : i = l.length := Nat.le_antisymm hi (by simpa using hge)
    rw [hor, hge, List.drop_length]
    rfl

theorem ContainsD_in {Φ : PW} [Stable Φ] (p : Option Addr) (cap : Nat) (l : List DeltaD) (b o : Nat) (cs : List (List Value)) (f : FuncId) (q : DeltaD → Bool) (hp : 0 < l.length → p = some ⟨b, o, none⟩) (hΦ : ∀ M w, Φ M w → Pin b o cs l M w) (hlen : l.length ≤ 9223372036854775807) (hf : okFun Try.prog f = true)
    (hq : ∀ j, (hj : j < l.length) → ∀ r c, cs.getD j [] = l[j].cells r c → l[j].row.length ≤ c → c ≤ maxLen → GivesIn Φ Try.prog f #[l[j].v r c] (.bool (q l[j]))) :
    GivesIn Φ Try.prog F.slices_ContainsFunc_api_Delta_api_Delta #[.slice p l.length cap, .func (.func f) #[] #[]] (.bool (l.any q)) := by
  refine gives_in (Bslices_ContainsFunc_api_Delta_api_Delta_run p l.length cap f #[]) fun W R => ?_
  exact fun w F cx => (IndexD_in p cap l b o cs f q hp hΦ hlen hf hq).use cx fun w cx => ⟨_, rfl, R, Φ, inferInstance, cx, fun w F cx => ⟨by rw [findI_any], cx.left⟩⟩

theorem Right1_in {Φ : PW} [Stable Φ] (x : DeltaD) (p : Option Addr) (cap : Nat) (hΦ : ∀ M w, Φ M w → Sl M w p x.row) (hlen : x.row.length ≤ 9223372036854775807) :
    GivesIn Φ Try.prog F.channel_Right_1 #[x.v p cap] (.bool (!rightRow x.row)) := by
  refine gives_in (Bchannel_Right_1_run x.time p x.row.length cap x.n) fun W R => ?_
  exact fun _ w F cx => (RightRow_in p cap x.row hΦ hlen).use cx fun w cx => ⟨_, rfl, R, Φ, inferInstance, cx, fun w F cx => ⟨rfl, cx.left⟩⟩

end Go.Proofs.Yticgmbmghnikeaa
