/-
  For every input erratalaw28.DeltaCounts returns true, does not panic, comes to an end, and leaves what came in as it was; the variables that its row lists are as the program's text lays them.
  Conditions: none beyond the given statement's own (DeltaCountsCardSaid).
-/
import Derived.Test.YtnapfhbibikbiaaDoorCo7
import Derived.Test.YtnapfhbibikbiaaDoorTie
import Derived.Test.YtnapfhbibikbiaaDoorCards
import Derived.SevenTiedAt
import Derived.LaidMore
import Derived.Test.YtnapfhbibikbiaaDoorRows

/-
  few, Bytes, small, walked.
-/
section
set_option linter.unusedVariables false
set_option linter.unusedSimpArgs false
namespace Go.Proofs.YtnapfhbibikbiaaDoor
open Go.Vc


/-! ### few -/
def shortR (r : List ValD) : Bool := r.all fun v => decide (v.text.size ≤ 200)
def okRow28 (r : List ValD) : Bool := (shortR r && decide ((r.length : Int) ≤ 10)) && rightR r
def fewP (l : List DeltaD) (n : Int) : Bool := decide ((l.length : Int) ≤ n) && l.all fun x => okRow28 x.row

theorem shortR_step {r : List ValD} {k : Nat} (h : k < r.length) : shortR (r.take (k + 1)) = (shortR (r.take k) && decide (r[k].text.size ≤ 200)) := by
  unfold shortR
  rw [List.take_succ_eq_append_getElem h, List.all_append]
  simp
theorem shortR_less {r : List ValD} {k : Nat} (h : k < r.length) (hb : ¬ r[k].text.size ≤ 200) : shortR r = false := by
  unfold shortR
  rw [List.all_eq_false]
  exact ⟨r[k], List.getElem_mem h, by simpa using hb⟩

theorem Few_pin {Φ : PW} [Stable Φ] (p : Option Addr) (cap : Nat) (l : List DeltaD) (n : Int) (g o : Nat) (cs : List (List Value)) (hp : 0 < l.length → p = some ⟨g, o, none⟩) (hΦ : ∀ M w, Φ M w → Pin g o cs l M w)
    (hlen : l.length ≤ 9223372036854775807) : GivesIn Φ Tryd.prog F.erratalaw28_few #[.slice p l.length cap, .int .i64 n] (.bool (fewP l n)) := by
  refine in_cells hΦ fun hcs => ?_
  refine gives_in (Berratalaw28_few_run p l.length cap n) fun W R => ?_
  refine exI_mk (fun iI R' Φ' k => ∃ i : Nat, iI = i ∧ i ≤ l.length ∧ R' = R ∧ Φ' = Φ ∧ k = l.length - i ∧ (l.all fun x => okRow28 x.row) = (l.drop i).all fun x => okRow28 x.row) ⟨⟨R, Φ, _, inferInstance, fun w F c => c, 0, rfl, Nat.zero_le _, rfl, rfl, rfl, rfl⟩, ?_⟩
  rintro iI R1 Φ1 k _ ⟨i, rfl, hi, rfl, rfl, rfl, hs⟩
  refine fun w G cx => Br.intro (fun hlt => ?_) (fun hge => fun w G cx => ⟨?_, cx.left⟩)
  · simp only [Bool.and_eq_true, decide_eq_true_eq] at hlt
    have hlt : i < l.length := by omega
    obtain ⟨r, rc, he, f1, f2, _, _⟩ := hcs i hlt
    have hrl : l[i].row.length ≤ 9223372036854775807 := len_max f1 f2
    rw [List.drop_eq_getElem_cons hlt, List.all_cons] at hs
    have hcell : ∀ {w : World} {G : List Own}, Ctx W w (R1 ++ G) Φ1 → w.cell? ⟨g, o + (i : Int).toNat * 3 + 1, none⟩ = some (.slice r l[i].row.length rc) := fun cx => by
      have := pin_rowAt (hΦ _ _ cx.phi) hlt he 1 (by simp)
      rw [Int.toNat_natCast]; simpa using this
    have hpp := hp (by omega)
    clear cx
    refine exI_mk (fun kI R' Φ' m => ∃ k : Nat, kI = k ∧ k ≤ l[i].row.length ∧ R' = R1 ∧ Φ' = Φ1 ∧ m = l[i].row.length - k ∧ shortR (l[i].row.take k) = true) ⟨⟨R1, Φ1, _, inferInstance, fun w F c => c, 0, rfl, Nat.zero_le _, rfl, rfl, rfl, rfl⟩, ?_⟩
    rintro kI R2 Φ2 m _ ⟨k, rfl, hk, rfl, rfl, rfl, hok⟩
    refine ⟨by omega, ptrK_intro g o hpp fun w G cx => ⟨r, l[i].row.length, rc, hcell cx, Br.intro (fun hlt2 => ?_) (fun hge2 => ?_)⟩⟩
    · have hlt2 : k < l[i].row.length := by have := of_decide_eq_true hlt2; omega
      refine ⟨by omega, ptrK_intro g o hpp fun w G cx => ⟨r, l[i].row.length, rc, hcell cx, by omega, ?_⟩⟩
      obtain ⟨b, o2, rfl⟩ := (pin_row (hΦ _ _ cx.phi) hlt he).there (by omega)
      refine ptrK_intro b o2 rfl fun w G cx => ⟨l[i].row[k].text, ?_, Br.intro (fun hb => fun w G cx => ⟨?_, cx.left⟩) (fun hb => ⟨by unfold I64; omega, R2, Φ2, l[i].row.length - (k + 1), inferInstance, fun w F c => c, ⟨k + 1, rfl, hlt2, rfl, rfl, rfl, ?_⟩, by omega⟩)⟩
      · have := sl_val (pin_row (hΦ _ _ cx.phi) hlt he) hlt2 2 (by simp)
        rw [Int.toNat_natCast]; simpa using this
      · have hb := of_decide_eq_true hb
        have h1 : okRow28 l[i].row = false := by unfold okRow28; rw [shortR_less hlt2 (by omega)]; rfl
        unfold fewP
        rw [hs, h1, Bool.false_and, Bool.and_false]
      · have hb := of_decide_eq_false hb
        rw [shortR_step hlt2, hok, Bool.true_and, decide_eq_true (by omega)]
    · have hge2 : k = l[i].row.length := by have := of_decide_eq_false hge2; omega
      subst hge2
      rw [List.take_length] at hok
      refine ⟨by omega, ptrK_intro g o hpp fun w G cx => ⟨r, l[i].row.length, rc, hcell cx, Br.intro (fun hb => fun w G cx => ⟨?_, cx.left⟩) (fun hb => ?_)⟩⟩
      · have hb := of_decide_eq_true hb
        have h1 : okRow28 l[i].row = false := by unfold okRow28; rw [decide_eq_false (by omega), Bool.and_false]; rfl
        unfold fewP
        rw [hs, h1, Bool.false_and, Bool.and_false]
      have hb := of_decide_eq_false hb
      refine ⟨by omega, ptrK_intro g o hpp fun w G cx => ⟨r, l[i].row.length, rc, hcell cx, fun w G cx => (RightRow3_in (Φ := Φ2) r rc l[i].row (fun M w h => pin_row (hΦ M w h) hlt he) hrl).use cx fun w cx => ⟨_, rfl, R2, Φ2, inferInstance, cx, Br.intro (fun h => fun w G cx => ⟨?_, cx.left⟩) (fun h => ⟨by unfold I64; omega, R2, Φ2, l.length - (i + 1), inferInstance, fun w F c => c, ⟨i + 1, rfl, hlt, rfl, rfl, rfl, ?_⟩, by omega⟩)⟩⟩⟩
      · have h1 : okRow28 l[i].row = false := by unfold okRow28; rw [show rightR l[i].row = false by simpa using h, Bool.and_false]
        unfold fewP
        rw [hs, h1, Bool.false_and, Bool.and_false]
      · have h1 : okRow28 l[i].row = true := by unfold okRow28; rw [hok, decide_eq_true (by omega), show rightR l[i].row = true by simpa using h]; rfl
        rw [hs, h1, Bool.true_and]
  · simp only [Bool.and_eq_false_iff, decide_eq_false_iff_not] at hge
    unfold fewP
    by_cases hl : (l.length : Int) ≤ n
    · have hi : i = l.length := by omega
      rw [hs, hi, List.drop_length, decide_eq_true hl]
      rfl
    · rw [decide_eq_false hl, Bool.false_and]

theorem Few_in {Φ : PW} [Stable Φ] (p : Option Addr) (cap : Nat) (l : List DeltaD) (n : Int) (hΦ : ∀ M w, Φ M w → Sl M w p l) (hlen : l.length ≤ 9223372036854775807) : GivesIn Φ Tryd.prog F.erratalaw28_few #[.slice p l.length cap, .int .i64 n] (.bool (fewP l n)) :=
  .pinned hΦ fun g o cs hp => Few_pin (Φ := fun M w => Φ M w ∧ Pin g o cs l M w) p cap l n g o cs hp (fun M w h => h.2) hlen

/-- what few says -/
theorem few_rows {l : List DeltaD} {n : Int} (h : fewP l n = true) : (l.length : Int) ≤ n ∧ (∀ x ∈ l, x.row.length ≤ 1000000) ∧ ∀ x ∈ l, x.row.length ≤ 10 ∧ ∀ v ∈ x.row, v.text.size ≤ 200 := by
  unfold fewP at h
  rw [Bool.and_eq_true, decide_eq_true_eq, List.all_eq_true] at h
  have h2 : ∀ x ∈ l, x.row.length ≤ 10 ∧ ∀ v ∈ x.row, v.text.size ≤ 200 := fun x hx => by
    have := h.2 x hx
    unfold okRow28 shortR at this
    rw [Bool.and_eq_true, Bool.and_eq_true, decide_eq_true_eq, List.all_eq_true] at this
    exact ⟨by omega, fun v hv => of_decide_eq_true (this.1.1 v hv)⟩
  exact ⟨h.1, fun x hx => Nat.le_trans (h2 x hx).1 (by decide), h2⟩

/-! ### Bytes -/
def deltaB (x : DeltaD) : ByteArray := intB x.time ++ textB (rowB x.row) ++ intB x.n
def deltasL (l : List DeltaD) : List UInt8 := l.flatMap fun x => (deltaB x).data.toList
def bytesL (l : List DeltaD) : List UInt8 := (natB (consP l).length).data.toList ++ deltasL (consP l)

theorem deltasL_app (a b : List DeltaD) : deltasL (a ++ b) = deltasL a ++ deltasL b := by simp [deltasL]
theorem deltasL_one (x : DeltaD) : deltasL [x] = (deltaB x).data.toList := by simp [deltasL]

/-- what Bytes can write -/
def Fit (x : DeltaD) : Prop := x.row.length ≤ 10000 ∧ ∀ v ∈ x.row, v.text.size ≤ 10000

theorem rowB_size {r : List ValD} (hi : ∀ v ∈ r, (I64 v.kind ∧ I64 v.num) ∧ v.text.size ≤ maxLen) (h1 : r.length ≤ 10000) (h2 : ∀ v ∈ r, v.text.size ≤ 10000) : (rowB r).size ≤ 200000000 := by
  have hv : ∀ v ∈ r, (I64 v.kind ∧ I64 v.num) ∧ v.text.size ≤ 10000 := fun v h => ⟨(hi v h).1, h2 v h⟩
  have hL := rowL_len hv (by decide) (by omega)
  have : r.length * (10000 + 64) ≤ 10000 * 10064 := Nat.mul_le_mul h1 (Nat.le_refl _)
  unfold rowB
  rw [size_list]; omega
theorem deltaB_size {x : DeltaD} (ht : I64 x.time) (hn : I64 x.n) (hi : ∀ v ∈ x.row, (I64 v.kind ∧ I64 v.num) ∧ v.text.size ≤ maxLen) (h : Fit x) : (deltaB x).size ≤ 200000100 := by
  have h1 := intB_size ht
  have h2 := intB_size hn
  have h3 := rowB_size hi h.1 h.2
  have h4 := textB_size (s := rowB x.row) (by omega)
  unfold deltaB
  rw [size_app, size_app]; omega

theorem Bytes28_in {Φ : PW} [Stable Φ] (p : Option Addr) (cap : Nat) (l : List DeltaD) (hT : l ≠ [] → ∀ M w, Φ M w → TabI M w) (hΦ : ∀ M w, Φ M w → Sl M w p l) (hlen : l.length ≤ 400) (hfit : ∀ x ∈ l, Fit x) :
    GivesIn Φ Tryd.prog F.delta_Bytes #[.slice p l.length cap] (.string ⟨(bytesL l).toArray⟩) := by
  have hrow : ∀ x ∈ l, x.row.length ≤ 1000000 := fun x hx => Nat.le_trans (hfit x hx).1 (by decide)
  refine gives_in (Bdelta_Bytes_run p l.length cap) fun W R => ?_
  refine fun w G cx => (Consolidate_sl p cap l hΦ (by omega) hrow).use cx fun p1 c1 w h1 h2 cx => ?_
  have hcfit : ∀ x ∈ consP l, x.row.length ≤ 10000 ∧ ∀ v ∈ x.row, v.text.size ≤ 10000 := consP_row (P := fun r => r.length ≤ 10000 ∧ ∀ v ∈ r, v.text.size ≤ 10000) hfit
  have hcl := consP_len l
  have hcT : consP l ≠ [] → ∀ M w, Φ M w → TabI M w := fun h => hT fun e => h (by rw [e]; rfl)
  unfold bytesL
  obtain ⟨c, hc⟩ : ∃ c, consP l = c := ⟨_, rfl⟩
  rw [hc] at cx h1 hcl hcfit hcT ⊢
  have hTn : Dec (fun M w => (Φ M w ∧ Sl M w p1 c)) (c.length : Int) := by
    cases c with
    | nil => exact .inr ⟨0, by decide, rfl⟩
    | cons x r => exact .inl ⟨fun M w h => hcT (by simp) M w h.1, by unfold I64; omega⟩
  obtain ⟨g, o, cs, hp, cx⟩ := cx.pin cx.phi.2
  have hcs : ∀ j, (hj : j < c.length) → ∃ p q, cs.getD j [] = c[j].cells p q ∧ c[j].row.length ≤ q ∧ q ≤ maxLen ∧ I64 c[j].time ∧ I64 c[j].n := fun j hj => by
    obtain ⟨p, c, h1, h2, h3, h4, h5, _⟩ := pin_delta cx.phi.2 hj
    exact ⟨p, c, h1, h2, h3, h4, h5⟩
  have hI : ∀ j, (hj : j < c.length) → ∀ v ∈ c[j].row, (I64 v.kind ∧ I64 v.num) ∧ v.text.size ≤ maxLen := fun j hj => by
    obtain ⟨q, qc, he, _⟩ := hcs j hj
    exact sl_i64 (pin_row cx.phi.2 hj he)
  have hlenL : ∀ i, i ≤ c.length → (deltasL (c.take i)).length ≤ i * 200000100 := by
    intro i
    induction i with
    | zero => intro _; simp [deltasL]
    | succ i ih =>
      intro hi
      have ih := ih (by omega)
      obtain ⟨_, _, _, _, _, ht, hn⟩ := hcs i (by omega)
      have := deltaB_size ht hn (hI i (by omega)) (hcfit c[i] (List.getElem_mem _))
      rw [List.take_succ_eq_append_getElem (by omega), deltasL_app, deltasL_one, List.length_append, list_size, Nat.add_mul]
      omega
  refine ⟨p1, _, c1, rfl, R, fun M w => (Φ M w ∧ Sl M w p1 c) ∧ Pin g o cs c M w, inferInstance, cx, ?_⟩
  clear cx
  have hst : Stable (fun M w => (Φ M w ∧ Sl M w p1 c) ∧ Pin g o cs c M w) := inferInstance
  intro b w G cx
  have hnum : GivesIn (fun M w => (Φ M w ∧ Sl M w p1 c) ∧ Pin g o cs c M w) Tryd.prog F.wire_Num #[.int .i64 (c.length : Int)] (.string (natB c.length)) := Num_in (by
    rcases hTn with ⟨h1, h2⟩ | h
    · exact .inl ⟨fun M w h => h1 M w h.1, h2⟩
    · exact .inr h)
  have hnat := natB_size (n := (c.length : Int)) (by unfold I64; omega)
  refine hnum.use cx fun w cx => ⟨_, rfl, .blk b [.pointer none, .slice none 0 0] 79 :: R, _, hst, cx, fun w G cx => ?_⟩
  refine WriteString_use (natB c.length) Bd.nil (Bd.fresh cx) (by simp only [List.length_nil]; omega) fun R1 w hB cx => ⟨_, _, rfl, R1 ++ R, _, hst, by rw [List.append_assoc]; exact cx, ?_⟩
  rw [List.nil_append] at hB
  clear cx
  refine exI_mk (fun iI R' Φ' k => ∃ (i : Nat) (Q : List Own), iI = i ∧ i ≤ c.length ∧ BdT b ((natB c.length).data.toList ++ deltasL (c.take i)) Q ∧ R' = Q ++ R ∧ Φ' = (fun M w => (Φ M w ∧ Sl M w p1 c) ∧ Pin g o cs c M w) ∧ k = c.length - i) ⟨⟨_, _, _, hst, fun w G cx => cx, 0, R1, rfl, Nat.zero_le _, by rw [List.take_zero, show deltasL [] = [] from rfl, List.append_nil]; exact hB, rfl, rfl, rfl⟩, ?_⟩
  rintro iI R2 Φ2 k _ ⟨i, Q, rfl, hi, hQ, rfl, rfl, rfl⟩
  refine Br.intro (fun hlt => ?_) (fun hge => fun w G cx => ?_)
  · have hlt : i < c.length := by have := of_decide_eq_true hlt; omega
    obtain ⟨q, qc, he, g1, g2, ht, hn⟩ := hcs i hlt
    have hT2 : ∀ M w, ((Φ M w ∧ Sl M w p1 c) ∧ Pin g o cs c M w) → TabI M w := fun M w h => hcT (fun e => by rw [e] at hlt; exact absurd hlt (by simp)) M w h.1.1
    have hf := hcfit c[i] (List.getElem_mem hlt)
    have hrs := rowB_size (hI i hlt) hf.1 hf.2
    have s1 := intB_size ht
    have s2 := intB_size hn
    have s3 := textB_size (s := rowB c[i].row) (by omega)
    have hsz := deltaB_size ht hn (hI i hlt) hf
    have hLi := hlenL i hi
    have hstep : deltasL (c.take (i + 1)) = deltasL (c.take i) ++ (deltaB c[i]).data.toList := by rw [List.take_succ_eq_append_getElem hlt, deltasL_app, deltasL_one]
    refine ⟨by omega, ptrK_intro g o (hp (by omega)) fun w G cx => ⟨c[i].time, q, c[i].row.length, qc, c[i].n, by rw [Int.toNat_natCast]; exact pin_rowAt cx.phi.2 hlt he, fun _ => ⟨Q ++ R, _, hst, fun w G cx => cx, fun w G cx => (Int_in (.inl ⟨hT2, ht⟩)).toS cx ⟨fun w G cx => cx, fun w G cx => (RowBytes_in q qc c[i].row hT2 (fun M w h => pin_row h.2 hlt he) (by omega) hf.2).toS cx ⟨fun w G cx => cx, fun w G cx => (Text_in (.inl ⟨hT2, by unfold I64; omega⟩) (by omega)).toS cx
      ⟨fun w G cx => cx, by show (intB c[i].time).size + (textB (rowB c[i].row)).size ≤ _; omega, fun w G cx => (Int_in (.inl ⟨hT2, hn⟩)).toS cx ⟨fun w G cx => cx, by show (intB c[i].time ++ textB (rowB c[i].row)).size + (intB c[i].n).size ≤ _; rw [size_app]; omega, fun w G cx => ?_⟩⟩⟩⟩⟩⟩⟩
    have hQl : ((natB c.length).data.toList ++ deltasL (c.take i)).length + (deltaB c[i]).size ≤ 100000000000 := by
      rw [List.length_append, list_size]
      have : i * 200000100 ≤ 400 * 200000100 := Nat.mul_le_mul_right _ (by omega)
      omega
    refine WriteString_use (deltaB c[i]) hQ (cx.re (List.append_assoc _ _ _)) hQl fun Q' w hQ' cx => ⟨_, _, rfl, Q' ++ R, _, hst, by rw [List.append_assoc]; exact cx, by unfold I64; omega, _, _, c.length - (i + 1), hst, fun w G cx => cx, ⟨i + 1, Q', by omega, hlt, ?_, rfl, rfl, rfl⟩, by omega⟩
    rw [hstep, ← List.append_assoc]; exact hQ'
  · have hge : i = c.length := by have := of_decide_eq_false hge; omega
    subst hge
    rw [List.take_length] at hQ
    exact String_use hQ (cx.re (List.append_assoc _ _ _)) fun w cx => ⟨_, rfl, R, _, hst, cx, fun w G cx => ⟨rfl, cx.left.weak fun M w h => h.1.1⟩⟩

/-! ### with answers that are known -/
theorem EqualV_in {Φ : PW} [Stable Φ] {p : Option Addr} {cap : Nat} {a : List DeltaD} {q : Option Addr} {cap2 : Nat} {b : List DeltaD} (v : a = b) [hΦ : Has Φ (fun M w => Sl M w p a)] [hΨ : Has Φ (fun M w => Sl M w q b)] (hlen : a.length ≤ 1000000) :
    GivesIn Φ Tryd.prog F.errataref28_Equal #[.slice p a.length cap, .slice q b.length cap2] (.bool true) := by
  have h := Equal_in p cap a q cap2 b hΦ.go hΨ.go (by omega)
  rwa [decide_eq_true v] at h
theorem AddH {Φ : PW} [Stable Φ] {p : Option Addr} {cap : Nat} {a : List DeltaD} {q : Option Addr} {cap2 : Nat} {b : List DeltaD} [hΦ : Has Φ (fun M w => Sl M w p a)] [hΨ : Has Φ (fun M w => Sl M w q b)] (h1 : a.length ≤ cap) (h2 : cap ≤ maxLen) (h3 : b.length ≤ cap2) (h4 : cap2 ≤ maxLen)
    (ha : a.length ≤ 400000) (hb : b.length ≤ 400000) (hra : Rows1 a) (hrb : Rows1 b) : GivesSl Φ Tryd.prog F.delta_Add #[.slice p a.length cap, .slice q b.length cap2] (addP a b) id := Add_sl p cap a q cap2 b hΦ.go hΨ.go h1 h2 h3 h4 ha hb hra hrb
theorem ConH {Φ : PW} [Stable Φ] {p : Option Addr} {cap : Nat} {a : List DeltaD} [hΦ : Has Φ (fun M w => Sl M w p a)] (ha : a.length ≤ 1000000) (hra : Rows1 a) : GivesSl Φ Tryd.prog F.delta_Consolidate #[.slice p a.length cap] (consP a) id := Consolidate_sl p cap a hΦ.go ha hra
theorem UptoH {Φ : PW} [Stable Φ] {p : Option Addr} {cap : Nat} {a : List DeltaD} {t : Int} [hΦ : Has Φ (fun M w => Sl M w p a)] (ha : a.length ≤ 1000000) (hra : Rows1 a) : GivesSl Φ Tryd.prog F.delta_Upto #[.slice p a.length cap, .int .i64 t] (uptoP a t) id := Upto_sl p cap a t hΦ.go ha hra
theorem AfterH {Φ : PW} [Stable Φ] {p : Option Addr} {cap : Nat} {a : List DeltaD} {t : Int} [hΦ : Has Φ (fun M w => Sl M w p a)] (ha : a.length ≤ 1000000) (hra : Rows1 a) : GivesSl Φ Tryd.prog F.delta_After #[.slice p a.length cap, .int .i64 t] (afterP a t) id := After_sl p cap a t hΦ.go ha hra
theorem FindH {Φ : PW} [Stable Φ] {p : Option Addr} {cap : Nat} {a : List DeltaD} {t : Int} {q : Option Addr} {cap2 : Nat} {r : List ValD} [hΦ : Has Φ (fun M w => Sl M w p a)] [hΨ : Has Φ (fun M w => Sl M w q r)] (ha : a.length ≤ 1000000) :
    GivesIn Φ Tryd.prog F.delta_Find #[.slice p a.length cap, .int .i64 t, .slice q r.length cap2] (.int .i64 (findP a (t, r))) := Find_in p cap a t q cap2 r hΦ.go hΨ.go (by omega)

/-! ### small -/
abbrev v7 : List ValD := [⟨0, 7, ByteArray.mk #[]⟩]
abbrev sA : List DeltaD := [⟨3, v7, 1⟩]
abbrev sB : List DeltaD := [⟨3, v7, -1⟩]
theorem sAA : addP sA sA = [⟨3, v7, 2⟩] := by decide
theorem sAB : addP sA sB = [] := by decide
theorem sU : uptoP sA 2 = [] := by decide
theorem sF : afterP sA 2 = sA := by decide
theorem sFind : findP [⟨3, v7, 2⟩] (3, v7) = 2 := by decide
theorem sRow : Rows1 sA := by decide
theorem sRowB : Rows1 sB := by decide

theorem v7_rep {M : List Nat} {w : World} : Gv.rep M w [.int .i64 0, .int .i64 7, .string (ByteArray.mk #[])] (⟨0, 7, ByteArray.mk #[]⟩ : ValD) :=
  ⟨[.int .i64 0], [.int .i64 7, .string (ByteArray.mk #[])], rfl, ⟨rfl, by show I64 0; unfold I64; omega⟩, [.int .i64 7], [.string (ByteArray.mk #[])], rfl, ⟨rfl, by show I64 7; unfold I64; omega⟩, rfl, by decide⟩

theorem s_rep {M : List Nat} {w : World} {k : Nat} {n : Int} (hn : I64 n) (h : Sl M w (some ⟨k, 0, none⟩) v7) : Gv.rep M w [.int .i64 3, .slice (some ⟨k, 0, none⟩) 1 1, .int .i64 n] (⟨3, v7, n⟩ : DeltaD) :=
  rep_delta (x := ⟨3, v7, n⟩) (Nat.le_refl 1) (by decide) (by unfold I64; dsimp only; omega) hn h

theorem bytes_nil : (0 : Int) < ((ByteArray.mk (bytesL []).toArray).size : Int) := by
  have h := intB_size (n := 0) (by unfold I64; omega)
  have e : bytesL [] = (intB 0).data.toList := by
    show (natB 0).data.toList ++ [] = _
    rw [List.append_nil]; rfl
  rw [size_list, e, list_size]; omega

set_option maxHeartbeats 1000000 in
theorem small28_g : Gives Tryd.prog F.erratalaw28_small #[] (.bool true) := by
  refine gives_of (Berratalaw28_small_run) fun W R Φ hs => ?_
  intro k0 k1 k2 k3 w G cx
  have c1 : Ctx W w (.blk k0 [.int .i64 0, .int .i64 7, .string (ByteArray.mk #[])] 65 :: .blk k2 [.int .i64 0, .int .i64 7, .string (ByteArray.mk #[])] 65 :: .blk k1 [.int .i64 3, .slice (some ⟨k0, 0, none⟩) 1 1, .int .i64 1] 39 :: .blk k3 [.int .i64 3, .slice (some ⟨k2, 0, none⟩) 1 1, .int .i64 (-1)] 39 :: (R ++ G)) Φ := cx.perm (by
    refine (List.perm_middle (l₁ := [_, _, _])).symm.symm.trans ?_
    refine List.Perm.cons _ ?_
    refine (List.perm_middle (l₁ := [_])).trans ?_
    refine List.Perm.cons _ ?_
    exact List.Perm.swap _ _ _)
  obtain ⟨c2, h0⟩ := c1.freezeBlk (α := ValD) (l := v7) (Elems.one v7_rep)
  have c2 : Ctx W w _ (fun M w => Φ M w ∧ Sl M w (some ⟨k0, 0, none⟩) v7) := c2.add h0
  obtain ⟨c3, h2⟩ := c2.freezeBlk (α := ValD) (l := v7) (Elems.one v7_rep)
  have c4 : Ctx W w _ (fun M w => (Φ M w ∧ Sl M w (some ⟨k0, 0, none⟩) v7) ∧ Sl M w (some ⟨k2, 0, none⟩) v7) := c3.add h2
  obtain ⟨c5, h1⟩ := c4.freezeBlk (α := DeltaD) (l := sA) (Elems.one (s_rep (by unfold I64; omega) c4.phi.1.2))
  have c6 : Ctx W w _ (fun M w => ((Φ M w ∧ Sl M w (some ⟨k0, 0, none⟩) v7) ∧ Sl M w (some ⟨k2, 0, none⟩) v7) ∧ Sl M w (some ⟨k1, 0, none⟩) sA) := c5.add h1
  obtain ⟨c7, h3⟩ := c6.freezeBlk (α := DeltaD) (l := sB) (Elems.one (s_rep (by unfold I64; omega) c6.phi.1.2))
  have c7 : Ctx W w _ (fun M w => (((Φ M w ∧ Sl M w (some ⟨k0, 0, none⟩) v7) ∧ Sl M w (some ⟨k2, 0, none⟩) v7) ∧ Sl M w (some ⟨k1, 0, none⟩) sA) ∧ Sl M w (some ⟨k3, 0, none⟩) sB) := c7.add h3
  have c8 : Ctx W w (R ++ G) (fun M w => (Φ M w ∧ Sl M w (some ⟨k1, 0, none⟩) sA) ∧ Sl M w (some ⟨k3, 0, none⟩) sB) := c7.weak fun M w h => ⟨⟨h.1.1.1.1, h.1.2⟩, h.2⟩
  clear cx c1 c2 c3 c4 c5 c6 c7 h0 h1 h2 h3
  have hst : Stable (fun M w => (Φ M w ∧ Sl M w (some ⟨k1, 0, none⟩) sA) ∧ Sl M w (some ⟨k3, 0, none⟩) sB) := inferInstance
  have a1 := AddH (Φ := fun M w => (Φ M w ∧ Sl M w (some ⟨k1, 0, none⟩) sA) ∧ Sl M w (some ⟨k3, 0, none⟩) sB) (p := some ⟨k1, 0, none⟩) (cap := 1) (a := sA) (q := some ⟨k1, 0, none⟩) (cap2 := 1) (b := sA) (by decide) (by decide) (by decide) (by decide) (by decide) (by decide) sRow sRow
  rw [sAA] at a1
  refine a1.to c8 fun p c g1 g2 hst2 => Br.intro (fun _ => ?_) (fun h => by exfalso; revert h; decide)
  clear c8
  intro k w G cx
  obtain ⟨cx, h0⟩ := cx.freezeBlk (α := ValD) (l := v7) (Elems.one v7_rep)
  have hst3 := hst2
  have hf := FindH (Φ := fun M w => (((Φ M w ∧ Sl M w (some ⟨k1, 0, none⟩) sA) ∧ Sl M w (some ⟨k3, 0, none⟩) sB) ∧ Sl M w p [(⟨3, v7, 2⟩ : DeltaD)]) ∧ Sl M w (some ⟨k, 0, none⟩) v7) (p := p) (cap := c) (a := [⟨3, v7, 2⟩]) (t := 3) (q := some ⟨k, 0, none⟩) (cap2 := 1) (r := v7) (by decide)
  rw [sFind] at hf
  have cx : Ctx W w (R ++ G) (fun M w => (((Φ M w ∧ Sl M w (some ⟨k1, 0, none⟩) sA) ∧ Sl M w (some ⟨k3, 0, none⟩) sB) ∧ Sl M w p [(⟨3, v7, 2⟩ : DeltaD)]) ∧ Sl M w (some ⟨k, 0, none⟩) v7) := cx.add h0
  refine hf.toI cx (Br.intro (fun _ => ?_) (fun h => by exfalso; revert h; decide))
  clear cx h0 a1
  have a2 := AddH (Φ := fun M w => (((Φ M w ∧ Sl M w (some ⟨k1, 0, none⟩) sA) ∧ Sl M w (some ⟨k3, 0, none⟩) sB) ∧ Sl M w p [(⟨3, v7, 2⟩ : DeltaD)]) ∧ Sl M w (some ⟨k, 0, none⟩) v7) (p := some ⟨k1, 0, none⟩) (cap := 1) (a := sA) (q := some ⟨k3, 0, none⟩) (cap2 := 1) (b := sB) (by decide) (by decide) (by decide) (by decide) (by decide) (by decide) sRow sRowB
  rw [sAB] at a2
  refine fun w G cx => a2.toW (Ψ := fun M w => Φ M w ∧ Sl M w (some ⟨k1, 0, none⟩) sA) cx fun p2 c2 _ _ _ => Br.intro (fun _ => ?_) (fun h => by exfalso; revert h; decide)
  have a3 := UptoH (Φ := fun M w => (Φ M w ∧ Sl M w (some ⟨k1, 0, none⟩) sA) ∧ Sl M w p2 ([] : List DeltaD)) (p := some ⟨k1, 0, none⟩) (cap := 1) (a := sA) (t := 2) (by decide) sRow
  rw [sU] at a3
  refine fun w G cx => a3.toW (Ψ := fun M w => Φ M w ∧ Sl M w (some ⟨k1, 0, none⟩) sA) cx fun p3 c3 _ _ _ => Br.intro (fun _ => ?_) (fun h => by exfalso; revert h; decide)
  have a4 := AfterH (Φ := fun M w => (Φ M w ∧ Sl M w (some ⟨k1, 0, none⟩) sA) ∧ Sl M w p3 ([] : List DeltaD)) (p := some ⟨k1, 0, none⟩) (cap := 1) (a := sA) (t := 2) (by decide) sRow
  rw [sF] at a4
  refine fun w G cx => a4.toW (Ψ := fun M w => Φ M w ∧ Sl M w (some ⟨k1, 0, none⟩) sA) cx fun p4 c4 _ _ _ => ?_
  have e1 := EqualV_in (Φ := fun M w => (Φ M w ∧ Sl M w (some ⟨k1, 0, none⟩) sA) ∧ Sl M w p4 sA) (p := p4) (cap := c4) (a := sA) (q := some ⟨k1, 0, none⟩) (cap2 := 1) (b := sA) rfl (by decide)
  refine fun w G cx => e1.toBW (Ψ := Φ) cx (Br.intro (fun _ => ?_) (fun h => by cases h))
  have hb := Bytes28_in (Φ := Φ) none 0 [] (fun h => absurd rfl h) (fun _ _ _ => Sl.nil) (by decide) (by simp)
  refine fun w G cx => hb.toS cx fun w G cx => ⟨?_, cx.left⟩
  rw [decide_eq_true (show (0 : Int) < ((ByteArray.mk (bytesL []).toArray).size : Int) from bytes_nil)]

end Go.Proofs.YtnapfhbibikbiaaDoor
end

/-
  The law DeltaGroup, in plain Lean and walked.
-/
section
set_option linter.unusedVariables false
set_option linter.unusedSimpArgs false
namespace Go.Proofs.YtnapfhbibikbiaaDoor
open Go.Vc


theorem add_assoc (a b c : List DeltaD) : addP (addP a b) c = addP a (addP b c) := consP_eq fun k => by
  rw [findP_app, findP_app, find_add, find_add, w64_l, w64_r, Int.add_assoc]
end Go.Proofs.YtnapfhbibikbiaaDoor
end

/-
  The law DeltaSplits, in plain Lean and walked.
-/
section
set_option linter.unusedVariables false
set_option linter.unusedSimpArgs false
namespace Go.Proofs.YtnapfhbibikbiaaDoor
open Go.Vc


theorem consP_key : ∀ {l : List DeltaD}, ∀ z ∈ consP l, ∃ y ∈ l, y.key = z.key
  | [], z, hz => by cases hz
  | x :: l, z, hz => by
    rcases insD_key x (consP l) z hz with h | ⟨y, hy, h⟩
    · exact ⟨x, by simp, h.symm⟩
    · obtain ⟨u, hu, h2⟩ := consP_key y hy
      exact ⟨u, by simp [hu], h2.trans h⟩
theorem sl_time {M : List Nat} {w : World} {b o : Nat} {l : List DeltaD} (h : Sl M w (some ⟨b, o, none⟩) l) {i : Nat} (hi : i < l.length) : w.cell? ⟨b, o + i * 3, none⟩ = some (.int .i64 l[i].time) := by
  obtain ⟨b', o', cs, e, _, h3, h4⟩ := h i hi
  cases e
  obtain ⟨p, c, rfl, _⟩ := delta_cells h4
  have := h3 0 (by simp)
  simpa [show (Gv.ty DeltaD).size = 3 from rfl] using this

end Go.Proofs.YtnapfhbibikbiaaDoor
end

/-
  The law DeltaCounts, in plain Lean and walked.
-/
section
set_option linter.unusedVariables false
set_option linter.unusedSimpArgs false
namespace Go.Proofs.YtnapfhbibikbiaaDoor
open Go.Vc


/-! ### Multiset -/
theorem find_ne {l : List DeltaD} {k : Key} (h : findP l k ≠ 0) : ∃ y ∈ l, y.key = k := by
  refine Classical.byContradiction fun hn => h ?_
  unfold findP
  rw [sumK_none fun y hy e => hn ⟨y, hy, e⟩]
  rfl
theorem multi_law (a : List DeltaD) : multiP a = !(a.any fun x => decide (findP a x.key < 0)) := by
  unfold multiP
  congr 1
  rw [Bool.eq_iff_iff, List.any_eq_true, List.any_eq_true]
  constructor
  · rintro ⟨z, hz, hn⟩
    obtain ⟨y, hy, he⟩ := consP_key z hz
    refine ⟨y, hy, ?_⟩
    have h1 := (consP_norm a).1.find_mem z hz
    rw [find_cons] at h1
    rw [he, h1]
    exact hn
  · rintro ⟨x, hx, hn⟩
    have hn := of_decide_eq_true hn
    have h1 : findP (consP a) x.key ≠ 0 := by rw [find_cons]; omega
    obtain ⟨z, hz, he⟩ := find_ne h1
    refine ⟨z, hz, ?_⟩
    have h2 := (consP_norm a).1.find_mem z hz
    rw [he, find_cons] at h2
    exact decide_eq_true (by omega)

/-! ### Times -/
section
open Go.Lib
theorem cu_last (d : Array Int) : ∀ m, 0 < m → 0 < (compactUpTo d m).length ∧ (compactUpTo d m)[(compactUpTo d m).length - 1]? = some d[m - 1]!
  | 0, h => by omega
  | 1, _ => by
    rw [compactUpTo_succ, show keeps d 0 = true by simp [keeps], if_pos rfl, show compactUpTo d 0 = [] by simp [compactUpTo]]
    simp
  | m + 2, _ => by
    obtain ⟨h1, h2⟩ := cu_last d (m + 1) (by omega)
    rw [compactUpTo_succ]
    by_cases hk : keeps d (m + 1) = true
    · rw [if_pos hk]
      simp
    · rw [if_neg hk, List.append_nil]
      refine ⟨h1, h2.trans ?_⟩
      have : d[m + 1]! = d[m]! := by
        refine Classical.byContradiction fun hn => hk (keeps_pos (m := m + 1) (by simpa using hn))
      simp only [Nat.add_sub_cancel]
      rw [show m + 2 - 1 = m + 1 by omega, this]
theorem cu_pre (d : Array Int) {m : Nat} : ∀ {n : Nat}, m ≤ n → ∃ r, compactUpTo d n = compactUpTo d m ++ r
  | 0, h => ⟨[], by rw [show m = 0 by omega, List.append_nil]⟩
  | n + 1, h => by
    rcases Nat.eq_or_lt_of_le h with e | hlt
    · exact ⟨[], by rw [e, List.append_nil]⟩
    · obtain ⟨r, hr⟩ := cu_pre d (m := m) (n := n) (by omega)
      exact ⟨r ++ (if keeps d n then [d[n]!] else []), by rw [compactUpTo_succ, hr, List.append_assoc]⟩
/-- the place of an element's time -/
def posT (d : Array Int) (m : Nat) : Nat := (compactUpTo d m).length - 1
theorem posT_at (d : Array Int) {m n : Nat} (h0 : 0 < m) (h : m ≤ n) : posT d m < (compactUpTo d n).length ∧ (compactUpTo d n)[posT d m]? = some d[m - 1]! := by
  obtain ⟨h1, h2⟩ := cu_last d m h0
  obtain ⟨r, hr⟩ := cu_pre d h
  unfold posT
  rw [hr, List.length_append, List.getElem?_append_left (by omega)]
  exact ⟨by omega, h2⟩
theorem posT_more (d : Array Int) {m : Nat} (h0 : 0 < m) (h : d[m - 1]! ≠ d[m]!) : posT d (m + 1) = posT d m + 1 := by
  obtain ⟨h1, _⟩ := cu_last d m h0
  unfold posT
  rw [compactUpTo_succ, if_pos (keeps_pos fun e => h e.symm), List.length_append]
  simp; omega
theorem posT_same (d : Array Int) {m : Nat} (h : m = 0 ∨ d[m - 1]! = d[m]!) : posT d (m + 1) = posT d m := by
  rcases h with rfl | h
  · unfold posT
    rw [compactUpTo_succ, show keeps d 0 = true by simp [keeps], if_pos rfl, show compactUpTo d 0 = [] by simp [compactUpTo]]
    rfl
  · unfold posT
    rcases Nat.eq_zero_or_pos m with rfl | h0
    · rw [compactUpTo_succ, show keeps d 0 = true by simp [keeps], if_pos rfl, show compactUpTo d 0 = [] by simp [compactUpTo]]
      rfl
    · rw [compactUpTo_succ, if_neg (by rw [keeps_neg h0 h.symm]; simp), List.append_nil]
end

theorem tm_at {c : List DeltaD} {i : Nat} (h : i < c.length) : (c.map DeltaD.time).toArray[i]! = c[i].time := by
  rw [getElem!_pos _ i (by simpa using h)]
  simp

theorem sl_take2 {α : Type} [Gv α] {M : List Nat} {w : World} {p : Option Addr} {l : List α} (h : Sl M w p l) (n : Nat) : Sl M w p (l.take n) := fun j hj => by
  have hj2 : j < l.length := by rw [List.length_take] at hj; omega
  obtain ⟨b, o, cs, h1, h2, h3, h4⟩ := h j hj2
  exact ⟨b, o, cs, h1, h2, h3, by rw [List.getElem_take]; exact h4⟩

theorem sl_int2 {M : List Nat} {w : World} {b o : Nat} {l : List Int} (h : Sl M w (some ⟨b, o, none⟩) l) {k : Nat} {x : Int} (hx : l[k]? = some x) : w.cell? ⟨b, o + k, none⟩ = some (.int .i64 x) := by
  obtain ⟨hk, rfl⟩ := List.getElem?_eq_some_iff.1 hx
  exact sl_int h hk

set_option maxHeartbeats 4000000 in
theorem Counts_pin {Φ : PW} [Stable Φ] (p : Option Addr) (cap : Nat) (a : List DeltaD) (n : Int) (g o : Nat) (cs : List (List Value)) (hp : 0 < a.length → p = some ⟨g, o, none⟩)
    [hA : Has Φ (fun M w => Sl M w p a)] [hP : Has Φ (fun M w => Pin g o cs a M w)] (ha1 : a.length ≤ cap) (ha2 : cap ≤ maxLen) :
    GivesIn Φ Tryd.prog F.erratalaw28_DeltaCounts #[.slice p a.length cap, .int .i64 n] (.bool true) := by
  refine in_cells hP.go fun hcs => ?_
  refine gives_in (Berratalaw28_DeltaCounts_run p a.length cap n) fun W R => ?_
  refine fun w G cx => (small28_g.in).toB cx fun w G cx => (Few_in p cap a 100 hA.go (len_max ha1 ha2)).toB cx (Br.intro (fun _ => fun w G cx => ⟨rfl, cx.left⟩) fun hr => ?_)
  obtain ⟨al, ar, _⟩ := few_rows (by simpa only [Bool.not_eq_false'] using hr)
  clear cx hr
  have cl := consP_len a
  refine fun w G cx => (ConH (by omega) ar).tot cx fun p1 c1 e1 e2 th1 hs1 => ?_
  clear cx
  obtain ⟨c, hc⟩ : ∃ c, consP a = c := ⟨_, rfl⟩
  rw [hc] at e1 th1 hs1 cl ⊢
  refine exI_mk (fun neg iI R' Φ' k => ∃ i : Nat, iI = i ∧ i ≤ a.length ∧ neg = ((a.take i).any fun x => decide (findP a x.key < 0)) ∧ R' = R ∧ Φ' = (fun M w => Φ M w ∧ Sl M w p1 c) ∧ k = a.length - i) ⟨⟨R, _, _, hs1, fun w G cx => cx, 0, rfl, Nat.zero_le _, rfl, rfl, rfl, rfl⟩, ?_⟩
  rintro neg iI R1 Φ1 k _ ⟨i, rfl, hi, hneg, rfl, rfl, rfl⟩
  refine Br.intro (fun hlt => ?_) (fun hge => ?_)
  · have hlt : i < a.length := by have := of_decide_eq_true hlt; omega
    have hstep : ((a.take (i + 1)).any fun x => decide (findP a x.key < 0)) = (neg || decide (findP a a[i].key < 0)) := by
      rw [List.take_succ_eq_append_getElem hlt, List.any_append, hneg]
      simp
    obtain ⟨s, sc, he, f1, f2, _, _⟩ := hcs i hlt
    have hpp := hp (by omega)
    have hc0 : ∀ {w : World} {G : List Own}, Ctx W w (R1 ++ G) (fun M w => Φ M w ∧ Sl M w p1 c) → w.cell? ⟨g, o + (i : Int).toNat * 3, none⟩ = some (.int .i64 a[i].time) := fun cx => by
      have := pin_rowAt (hP.go _ _ cx.phi.1) hlt he 0 (by simp)
      rw [Int.toNat_natCast]; simpa using this
    have hc1 : ∀ {w : World} {G : List Own}, Ctx W w (R1 ++ G) (fun M w => Φ M w ∧ Sl M w p1 c) → w.cell? ⟨g, o + (i : Int).toNat * 3 + 1, none⟩ = some (.slice s a[i].row.length sc) := fun cx => by
      have := pin_rowAt (hP.go _ _ cx.phi.1) hlt he 1 (by simp)
      rw [Int.toNat_natCast]; simpa using this
    have hrw : Has (fun M w => Φ M w ∧ Sl M w p1 c) (fun M w => Sl M w s a[i].row) := ⟨fun M w h => pin_row (hP.go _ _ h.1) hlt he⟩
    refine ⟨R1, _, hs1, fun w G cx => cx, Br.intro (fun hn => ⟨by unfold I64; omega, R1, _, a.length - (i + 1), hs1, fun w G cx => cx, ⟨i + 1, rfl, hlt, by rw [hstep, hn, Bool.true_or], rfl, rfl, rfl⟩, by omega⟩) (fun hn => ?_)⟩
    refine ⟨by omega, ptrK_intro g o hpp ⟨by omega, ptrK_intro g o hpp ⟨_, fun w G cx => ⟨_, hc0 cx, rfl⟩, _, _, _, fun w G cx => ⟨_, _, _, hc1 cx, rfl⟩, fun w G cx => (FindH (by omega)).toI cx ⟨by unfold I64; omega, R1, _, a.length - (i + 1), hs1, fun w G cx => cx, ⟨i + 1, rfl, hlt, by rw [hstep, hn, Bool.false_or], rfl, rfl, rfl⟩, by omega⟩⟩⟩⟩
  have hge : i = a.length := by have := of_decide_eq_false hge; omega
  subst hge
  rw [List.take_length] at hneg
  have htl : (timesP a).length ≤ 100 := by
    have := compact_len ((consP a).map DeltaD.time)
    rw [List.length_map, hc] at this
    unfold timesP
    rw [hc]; omega
  refine fun w G cx => (Times_sl p cap a (fun M w h => hA.go M w h.1) (by omega) ar).tot cx fun p2 c2 t1 t2 th2 hs2 => ?_
  clear cx
  have hT : timesP a = Lib.compactUpTo (c.map DeltaD.time).toArray c.length := by
    unfold timesP Lib.compact
    rw [hc, List.length_map]
  obtain ⟨d, hd⟩ : ∃ d, (c.map DeltaD.time).toArray = d := ⟨_, rfl⟩
  have htm : ∀ i, (h : i < c.length) → d[i]! = c[i].time := fun i h => by rw [← hd]; exact tm_at h
  obtain ⟨T, hTT⟩ : ∃ T, timesP a = T := ⟨_, rfl⟩
  rw [hTT, hd] at hT
  rw [hTT] at htl t1 th2 hs2 ⊢
  refine exI_mk (fun kI iI R' Φ' m => ∃ i : Nat, iI = i ∧ i ≤ c.length ∧ kI = (posT d i : Int) ∧ R' = R1 ∧ Φ' = (fun M w => (Φ M w ∧ Sl M w p1 c) ∧ Sl M w p2 T) ∧ m = c.length - i) ⟨⟨R1, _, _, hs2, fun w G cx => cx, 0, rfl, Nat.zero_le _, by simp [posT, Lib.compactUpTo], rfl, rfl, rfl⟩, ?_⟩
  rintro kI iI R2 Φ2 m _ ⟨i, rfl, hi, rfl, rfl, rfl, rfl⟩
  refine Br.intro (fun hlt => ?_) (fun hge => ?_)
  · have hlt : i < c.length := by have := of_decide_eq_true hlt; omega
    obtain ⟨g1, o1, rfl⟩ := th1 (by omega)
    obtain ⟨hpl, hpv⟩ := posT_at d (m := i + 1) (n := c.length) (by omega) (by omega)
    rw [← hT] at hpl hpv
    rw [Nat.add_sub_cancel, htm i hlt] at hpv
    have hpb : posT d i ≤ i := by
      unfold posT Lib.compactUpTo
      have := List.length_filter_le (Lib.keeps d) (List.range i)
      rw [List.length_map]
      rw [List.length_range] at this
      omega
    obtain ⟨g2, o2, rfl⟩ := th2 (by omega)
    have back : posT d (i + 1) < T.length → I64 ((i : Int) + 1) ∧ ∃ R0 Φ0 m0, Stable Φ0 ∧ (∀ w G, Ctx W w (R2 ++ G) (fun M w => (Φ M w ∧ Sl M w (some ⟨g1, o1, none⟩) c) ∧ Sl M w (some ⟨g2, o2, none⟩) T) → Ctx W w (R0 ++ G) Φ0) ∧
        (∃ i' : Nat, (i : Int) + 1 = i' ∧ i' ≤ c.length ∧ ((posT d (i + 1) : Nat) : Int) = (posT d i' : Int) ∧ R0 = R2 ∧ Φ0 = (fun M w => (Φ M w ∧ Sl M w (some ⟨g1, o1, none⟩) c) ∧ Sl M w (some ⟨g2, o2, none⟩) T) ∧ m0 = c.length - i') ∧ m0 < c.length - i :=
      fun _ => ⟨by unfold I64; omega, R2, _, c.length - (i + 1), hs2, fun w G cx => cx, ⟨i + 1, by omega, hlt, rfl, rfl, rfl, rfl⟩, by omega⟩
    have hcur : ∀ {w : World} {G : List Own}, Ctx W w (R2 ++ G) (fun M w => (Φ M w ∧ Sl M w (some ⟨g1, o1, none⟩) c) ∧ Sl M w (some ⟨g2, o2, none⟩) T) → w.cell? ⟨g1, o1 + (i : Int).toNat * 3, none⟩ = some (.int .i64 c[i].time) := fun cx => by rw [Int.toNat_natCast]; exact sl_time cx.phi.1.2 hlt
    have htim : ∀ {w : World} {G : List Own} {z : Int}, z = (posT d (i + 1) : Nat) → Ctx W w (R2 ++ G) (fun M w => (Φ M w ∧ Sl M w (some ⟨g1, o1, none⟩) c) ∧ Sl M w (some ⟨g2, o2, none⟩) T) → w.cell? ⟨g2, o2 + z.toNat, none⟩ = some (.int .i64 c[i].time) := fun hz cx => by rw [hz, Int.toNat_natCast]; exact sl_int2 cx.phi.2 hpv
    refine fun w G cx => ⟨fun h => by unfold I64; omega, fun h => by have := of_decide_eq_true h; omega, ptrK_intro g1 o1 rfl ⟨d[i - 1]!, fun h => ?_, fun h => by omega, ptrK_intro g1 o1 rfl ⟨c[i].time, fun _ => hcur cx, Br.intro (fun h => ?_) (fun h => ?_)⟩⟩⟩
    · have h := of_decide_eq_true h
      have e : (max ((i : Int) - 1) 0).toNat = i - 1 := by omega
      rw [e, htm (i - 1) (by omega)]
      exact sl_time cx.phi.1.2 (by omega)
    · rw [Bool.and_eq_true] at h
      have h1 := of_decide_eq_true h.1
      have h2 : d[i - 1]! ≠ d[i]! := by rw [htm i hlt]; exact of_decide_eq_true h.2
      have hm := posT_more d (m := i) (by omega) h2
      have hz : (posT d i : Int) + 1 = (posT d (i + 1) : Nat) := by omega
      refine ⟨by unfold I64; omega, Br.intro (fun h => by have := of_decide_eq_true h; omega) (fun _ => fun w G cx => ⟨by omega, ptrK_intro g2 o2 rfl ⟨_, htim hz cx, by omega, ptrK_intro g1 o1 rfl ⟨_, hcur cx, Br.intro (fun h => absurd rfl (of_decide_eq_true h)) (fun _ => ?_)⟩⟩⟩)⟩
      rw [hz]
      exact back hpl
    · have h2 : i = 0 ∨ d[i - 1]! = d[i]! := by
        rcases Nat.eq_zero_or_pos i with h0 | h0
        · exact .inl h0
        · right
          rw [show decide (0 < (i : Int)) = true from decide_eq_true (by omega), Bool.true_and] at h
          rw [htm i hlt]
          exact Decidable.not_not.1 (of_decide_eq_false h)
      have hm := posT_same d (m := i) h2
      have hz : (posT d i : Int) = (posT d (i + 1) : Nat) := by omega
      refine Br.intro (fun h => by have := of_decide_eq_true h; omega) (fun _ => fun w G cx => ⟨by omega, ptrK_intro g2 o2 rfl ⟨_, htim hz cx, by omega, ptrK_intro g1 o1 rfl ⟨_, hcur cx, Br.intro (fun h => absurd rfl (of_decide_eq_true h)) (fun _ => ?_)⟩⟩⟩)
      rw [hz]
      exact back hpl
  have hge : i = c.length := by have := of_decide_eq_false hge; omega
  subst hge
  have hend : (c.length = 0 ∧ T.length = 0) ∨ (0 < c.length ∧ posT d c.length + 1 = T.length) := by
    rcases Nat.eq_zero_or_pos c.length with h0 | h0
    · left; exact ⟨h0, by rw [hT, h0]; simp [Lib.compactUpTo]⟩
    · right
      obtain ⟨h1, _⟩ := cu_last d c.length h0
      refine ⟨h0, ?_⟩
      unfold posT
      rw [hT]; omega
  refine fun w G cx => ⟨fun _ => by unfold I64; omega, Br.intro (fun h => ?_) (fun _ => ?_)⟩
  · exfalso
    rcases hend with ⟨h1, h2⟩ | ⟨h1, h2⟩
    · rw [h1, h2] at h
      revert h; simp
    · have e1 : decide ((c.length : Int) = 0) = false := decide_eq_false (by omega)
      have e2 : decide ((T.length : Int) = 0) = false := decide_eq_false (by omega)
      have e3 : decide ((posT d c.length : Int) ≠ (T.length : Int) - 1) = false := decide_eq_false (by omega)
      rw [e1, e2, e3] at h
      revert h; simp
  clear cx
  -- the turned list
  have hml : multiP a = !neg := by rw [multi_law, hneg]
  have fin : ∀ (pr : Option Addr) (cr : Nat) (rl : List DeltaD) (Ψ : PW) (hst : Stable Ψ) (h1 : Has Ψ Φ) (h2 : Has Ψ (fun M w => Sl M w p1 c)) (h3 : Has Ψ (fun M w => Sl M w pr rl)), rl.length ≤ 100 → Rows1 rl → consP rl = c → ∀ (w : World) (G : List Own), Ctx W w (R2 ++ G) Ψ →
      Calls Tryd.prog F.delta_Multiset #[.slice p a.length cap] w fun e w' => ∃ b, e = .returned (.bool b) ∧ ∃ R' Φ', Stable Φ' ∧ Ctx W w' (R' ++ G) Φ' ∧ Br (b == !neg)
        (∀ w F1, Ctx W w (R' ++ F1) Φ' → Calls Tryd.prog F.delta_Consolidate #[.slice pr rl.length cr] w fun e w' => ∃ p n q, e = .returned (.slice p n q) ∧ ∃ R3 Φ3, Stable Φ3 ∧ Ctx W w' (R3 ++ F1) Φ3 ∧
          ∀ w F2, Ctx W w (R3 ++ F2) Φ3 → Calls Tryd.prog F.errataref28_Equal #[.slice p n q, .slice p1 c.length c1] w fun e w' => ∃ b, e = .returned (.bool b) ∧ ∃ R4 Φ4, Stable Φ4 ∧ Ctx W w' (R4 ++ F2) Φ4 ∧ ∀ w F3, Ctx W w (R4 ++ F3) Φ4 → (Value.bool b = .bool true ∧ Ctx W w R2 Φ))
        (∀ w F1, Ctx W w (R' ++ F1) Φ' → Value.bool false = .bool true ∧ Ctx W w R2 Φ) := by
    intro pr cr rl Ψ hst h1 h2 h3 hl hr hcon w G cx
    have hm := Multiset_in (Φ := Ψ) p cap a (fun M w h => hA.go M w (h1.go M w h)) (by omega) ar
    rw [hml] at hm
    refine hm.toB cx (Br.intro (fun _ => ?_) (fun h => by exfalso; revert h; simp))
    have hcr := consP_len rl
    refine fun w G cx => (ConH (by omega) hr).to cx fun p9 c9 _ _ hs9 => ?_
    exact fun w G cx => (EqualV_in hcon (by omega)).toBW (Ψ := Φ) cx fun w G cx => ⟨rfl, cx.left⟩
  refine fun w G cx => Br.intro (fun hn => ?_) (fun _ => ?_)
  · rw [Bool.and_eq_true] at hn
    obtain ⟨k, rfl⟩ : ∃ k : Nat, n = k := ⟨n.toNat, by have := of_decide_eq_true hn.1; omega⟩
    have hk0 : 0 < k := by have := of_decide_eq_true hn.1; omega
    have hk1 : k < a.length := by have := of_decide_eq_true hn.2; omega
    clear cx
    refine ⟨[], fun _ _ => True, inferInstance, fun w G cx => (cx.weak fun _ _ _ => trivial).right, by omega, by omega, fun kb => ⟨fun w G cx => (cx.weak fun _ _ _ => trivial).right, fun w G cx => ?_⟩⟩
    have hsub1 : ∀ {M : List Nat} {w : World}, Sl M w p a → Sl M w (subPtr p 3 (k : Int).toNat cap) (a.drop k) := fun h => by rw [Int.toNat_natCast]; exact addr_sub (α := DeltaD) h k ha1
    have hsub0 : ∀ {M : List Nat} {w : World}, Sl M w p a → Sl M w (subPtr p 3 0 cap) (a.take k) := fun h => by
      have := addr_sub (α := DeltaD) h 0 ha1
      rw [List.drop_zero] at this
      exact sl_take2 this _
    have hl1 : (a.drop k).length = a.length - (k : Int).toNat := by rw [List.length_drop, Int.toNat_natCast]
    have hl0 : (a.take k).length = (k : Int).toNat := by rw [List.length_take, Int.toNat_natCast]; omega
    have h1 := Ctx.cloned (P := Tryd.prog) (ts := 22) (ty := 22) (kb := #[false, false]) (bytes := 40) (c2 := cap - (k : Int).toNat) (l := a.drop k) (q := subPtr p 3 (k : Int).toNat cap) cx (by kernel_rfl) delta_one (fun M w h => hsub1 (hA.go M w h.1.1)) (by omega) (by omega)
    rw [hl1] at h1
    obtain ⟨q1, cap1, w1, ds1, hrun1, cx1⟩ := h1
    have hst3 : Stable (fun M w => ((Φ M w ∧ Sl M w p1 c) ∧ Sl M w p2 T) ∧ Elems M w ds1 (a.drop k)) := inferInstance
    refine ⟨q1, _, cap1, w1, hrun1, .buf q1 (a.length - (k : Int).toNat) cap1 ds1 39 3 :: R2, _, hst3, cx1, fun w G cx => (cx.weak fun _ _ _ => trivial).right, fun w G cx => ?_⟩
    have h2 := Ctx.appAny (P := Tryd.prog) (ts := 22) (ty := 22) (kb := #[false, false]) (bytes := 40) (c2 := cap) (l := a.take k) (q := subPtr p 3 0 cap) cx (by kernel_rfl) delta_one (fun M w h => hsub0 (hA.go M w h.1.1.1)) (by omega) (by omega)
    rw [hl0] at h2
    obtain ⟨q2, cap2, w2, ds2, hrun2, cx2⟩ := h2
    have cx2' := cx2.weak (Ψ := fun M w => ((Φ M w ∧ Sl M w p1 c) ∧ Sl M w p2 T) ∧ Elems M w (ds1 ++ ds2) (a.drop k ++ a.take k)) fun M w h => ⟨h.1.1, h.1.2.append h.2⟩
    have hrl : a.length - (k : Int).toNat + (k : Int).toNat = (a.drop k ++ a.take k).length := by rw [List.length_append, hl1, hl0]
    rw [hrl] at cx2' hrun2
    obtain ⟨cx3, hs3, _⟩ := Ctx.freeze (α := DeltaD) cx2'.fst cx2'.phi.2
    have hst4 : Stable (fun M w => (Φ M w ∧ Sl M w p1 c) ∧ Sl M w q2 (a.drop k ++ a.take k)) := inferInstance
    refine ⟨q2, _, cap2, w2, hrun2, R2, fun M w => (Φ M w ∧ Sl M w p1 c) ∧ Sl M w q2 (a.drop k ++ a.take k), hst4, (cx3.add hs3).weak fun M w h => ⟨h.1.1, h.2⟩, Br.intro (fun _ => ?_) (fun h => by cases h)⟩
    have hperm : (a.drop k ++ a.take k).Perm a := List.perm_append_comm.trans (by rw [List.take_append_drop])
    exact fin q2 cap2 (a.drop k ++ a.take k) _ hst4 inferInstance inferInstance inferInstance (by rw [← hrl]; omega) (fun x hx => ar x (hperm.mem_iff.1 hx)) (by rw [← hc]; exact consP_perm hperm)
  · exact Br.intro (fun _ => fin p cap a _ hs2 inferInstance inferInstance inferInstance (by omega) ar hc) (fun h => by cases h)

theorem Counts_in {Φ : PW} [Stable Φ] (p : Option Addr) (cap : Nat) (a : List DeltaD) (n : Int) (hA : ∀ M w, Φ M w → Sl M w p a) (ha1 : a.length ≤ cap) (ha2 : cap ≤ maxLen) :
    GivesIn Φ Tryd.prog F.erratalaw28_DeltaCounts #[.slice p a.length cap, .int .i64 n] (.bool true) :=
  .pinned hA fun g o cs hp => Counts_pin (Φ := fun M w => Φ M w ∧ Pin g o cs a M w) p cap a n g o cs hp (hA := ⟨fun M w h => hA M w h.1⟩) (hP := ⟨fun M w h => h.2⟩) ha1 ha2

end Go.Proofs.YtnapfhbibikbiaaDoor
end

section
set_option linter.unusedVariables false
set_option linter.unusedSimpArgs false
namespace Go.Proofs.YtnapfhbibikbiaaDoor
open Go.ChangeShapes Go.WideShapes Go.ChangeAt Go.RowKit Go.Vc


theorem df_own : ownKnob Tryd.prog.godebug = none := by kernel_rfl
theorem df_laid : laidOutB Tryd.prog = true := by kernel_rfl

theorem trodAll_n {H : Type} {enc : TypeId × Value → H} {P : Program} {w : World} {base : Nat} {spare : Nat → Bool} {held : Bool} {t0 t1 : TypeId} {args : Array Value} {ds : List (DataW H)} {ps : List MemPlace} (h : DataW.TrodAll enc P w base spare held [t0, t1] args.toList ds ps) :
    ∃ v0 v1 d0 d1 p0 p1, args = #[v0, v1] ∧ ds = [d0, d1] ∧ ps = p0 ++ p1 ∧ DataW.Trod enc P w base spare held t0 v0 d0 p0 ∧ DataW.Trod enc P w base spare held t1 v1 d1 p1 := by
  obtain ⟨v0, vs0, d0, ds0, p0, q0, hargs, rfl, rfl, h0, h⟩ := trodAll_cons h
  obtain ⟨v1, vs1, d1, ds1, p1, q1, rfl, rfl, rfl, h1, h⟩ := trodAll_cons h
  obtain ⟨rfl, rfl, rfl⟩ := trodAll_nil h
  exact ⟨v0, v1, d0, d1, p0, p1, by cases args; simp_all, rfl, by simp, h0, h1⟩

theorem door_met (os : Os) (args : Array Value) : laidMetH Tryd.prog Rows.deltaCountsRow.laid ((World.doorLaid Tryd.prog 400 os).forCall (fun _ _ => 0) ⟨#[], args, []⟩).memory :=
  laidMetH_of_parts3 (fuel := 8) (laidMet_of_run' 8 (by kernel_rfl) (by kernel_rfl)) (by kernel_rfl) (by kernel_rfl)

set_option maxRecDepth 100000 in
theorem law_lifted (os : Os) (started : os.Started) (H : Type) (enc : TypeId × Value → H) :
    ReturnsInHanded {} Tryd.checked os 6 .any (fun w args => (Rows.deltaCountsSpec.pre enc Tryd.prog Tryd.f6 Rows.deltaCountsRow.domain false w args ∧ laidMetH Tryd.prog Rows.deltaCountsRow.laid w) ∧ sizedMet enc Tryd.prog Tryd.f6 (OpenSpec.ofChange Rows.deltaCountsSpec) false w args) (Rows.deltaCountsSpec.post enc Tryd.prog Tryd.f6 false true false false) := by
  refine lawTrueLaid (C := Tryd.checked) (tb := 4) df_own started (by kernel_rfl) Tryd.func6 df_laid rfl ?_ rfl Tryd.underlying4 (by kernel_rfl)
    (ChangeSpec.witness_shaped (enc := enc) (C := Tryd.checked) (os := os) (X := fun w _ => laidMetH Tryd.prog Rows.deltaCountsRow.laid w) false (World.doorLaid Tryd.prog 400 os) #[.slice none 0 0, .int .i64 0] 8 rfl (World.shaped_of_RefB (by kernel_rfl) (by kernel_rfl)) (by kernel_rfl) (by kernel_rfl) (by kernel_rfl) (door_met os _)) ?_
  · intro ds hd
    match ds, hd with
    | [_, _], _ => exact ⟨rfl, rfl, rfl⟩
  · intro W base args ds p hval0 hA0 _ hL
    have hval : ∀ (j : Nat) t v, Tryd.f6.params[j]? = some t → args[j]? = some v → Value.okWide Tryd.prog W .any base t v := hval0
    have hA : DataW.TrodAll enc Tryd.prog W 0 (fun _ => true) true Tryd.f6.params.toList args.toList ds p := hA0
    rw [Tryd.params6] at hA hval
    obtain ⟨v0, v1, d0, d1, p0, p1, rfl, rfl, rfl, h0, h1⟩ := trodAll_n hA
    obtain ⟨ap, ac, a, rfl, aa, ab, s0⟩ := open_sl (α := DeltaD) 12 Tryd.underlying22 (hval 0 22 v0 rfl rfl) (by kernel_rfl) h0
    obtain ⟨n, rfl, rfl, rfl, nw⟩ := open_int Tryd.underlying3 (hval 1 3 v1 rfl rfl) h1
    have st0 : Stable (fun M w => Sl M w ap a) := inferInstance
    have fin : GivesIn (fun M w => Sl M w ap a) Tryd.prog 6 _ (.bool true) := Counts_in (Φ := (fun M w => Sl M w ap a)) ap ac a n (fun _ _ h => h) aa ab
    exact fin.law s0

theorem row_holds : Rows.DeltaCountsSaid :=
  OpenClaim.holds_of_wide 6 Tryd.f6 rfl rfl rfl rfl rfl rfl rfl ⟨rfl, rfl, rfl, rfl, rfl⟩ rfl rfl rfl rfl rfl (by kernel_rfl) Tryd.func6 (by kernel_rfl)
    (of_decide_eq_true (by kernel_rfl)) (by unfold Func.isWrapper; first | (rw [if_pos (by decide +kernel)]; kernel_rfl) | (rw [if_neg (by decide +kernel)]; exact ⟨rfl, rfl⟩))
    (fun os started H enc _ => law_lifted os started H enc)

theorem counts_holds : Rows.DeltaCountsCardSaid :=
  Claim7.holds_tied_plain_at .later [] [.data, .data, .data] true Rows.deltaCountsCard.stood.harness false
    row_holds (fun _ h => by cases h) (by kernel_rfl) (fun _ h => by cases h) deltaCounts_row_tie rfl ⟨rfl, rfl⟩ (by kernel_rfl) rfl
    (fun f fn hf hfn => by
      obtain rfl : f = 6 := Option.some.inj ((show Tryd.prog.funcNamed Rows.deltaCountsRow.func = some 6 by kernel_rfl).symm.trans hf) |>.symm
      obtain rfl : fn = Tryd.f6 := (Option.some.inj (Tryd.func6.symm.trans hfn)).symm
      exact ⟨by kernel_rfl, fun j t ht => by
        rw [Tryd.params6] at ht
        have hm := Array.mem_of_getElem? ht
        have hall : ((Tryd.f6.params.toList).all fun u => !Tryd.prog.wantsStandIn u) = true := by kernel_rfl
        rw [Tryd.params6] at hall
        exact (show Tryd.prog.wantsStandIn t = false by simpa using List.all_eq_true.1 hall t (by simpa using hm))⟩)
    (by kernel_rfl)

end Go.Proofs.YtnapfhbibikbiaaDoor
end

