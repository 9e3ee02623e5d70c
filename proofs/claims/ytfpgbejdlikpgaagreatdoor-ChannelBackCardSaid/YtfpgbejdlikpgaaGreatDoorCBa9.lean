/-
  few, Bytes, small, walked.
-/
import Derived.Test.YtfpgbejdlikpgaaGreatDoorCBa8
import Derived.Shelf.Slices.CompactI
import Derived.Test.YtfpgbejdlikpgaaGreatDoorCBa6
import Derived.Laws.IdiomStrings
import Derived.Test.YtfpgbejdlikpgaaGreatDoorCBa5
import Derived.Shelf.Strconv.AtoiAll
import Derived.Shelf.Small.Wraps
import Derived.Stop.IfaceNil
import Derived.Lib.AtoiErrMem
import Derived.Lib.AtoiAllCases
import Derived.Test.YtfpgbejdlikpgaaGreatDoorCards
import Derived.MakeChecks
import Derived.Stop.LaidErr
import Derived.Lib.LaidTab

section
set_option linter.unusedVariables false
set_option linter.unusedSimpArgs false
namespace Go.Proofs.YtfpgbejdlikpgaaGreatDoor
open Go.Vc


/-! ### few -/
/-! ### Bytes -/
def deltaB (x : DeltaD) : ByteArray := intB x.time ++ textB (rowB x.row) ++ intB x.n
def deltasL (l : List DeltaD) : List UInt8 := l.flatMap fun x => (deltaB x).data.toList
def bytesL (l : List DeltaD) : List UInt8 := (natB (consP l).length).data.toList ++ deltasL (consP l)

theorem deltasL_app (a b : List DeltaD) : deltasL (a ++ b) = deltasL a ++ deltasL b := by simp [deltasL]
theorem deltasL_one (x : DeltaD) : deltasL [x] = (deltaB x).data.toList := by simp [deltasL]

/-- what Bytes can write -/
def Fit (x : DeltaD) : Prop := x.row.length ≤ 10000 ∧ ∀ v ∈ x.row, v.text.size ≤ 10000

theorem rowB_size {r : List ValD} (hi : ∀ v ∈ r, (I64 v.kind ∧ I64 v.num) ∧ v.text.size ≤ maxLen) (h1 : r.length ≤ 10000) (h2 : ∀ v ∈ r, v.text.size ≤ 10000) : (rowB r).size ≤ 200000000 := by
  have hv : ∀ v ∈ r, (I64 v.kind ∧ I64 v.num) ∧ v.text.size ≤ 10000 := fun v h => ⟨(hi v h).1, h2 v h⟩
  have hL := rowL_len hv (by decide) (by omega)
  have : r.length * (10000 + 64) ≤ 10000 * 10064 := Nat.mul_le_mul h1 (Nat.le_refl _)
  unfold rowB
  rw [size_list]; omega
theorem deltaB_size {x : DeltaD} (ht : I64 x.time) (hn : I64 x.n) (hi : ∀ v ∈ x.row, (I64 v.kind ∧ I64 v.num) ∧ v.text.size ≤ maxLen) (h : Fit x) : (deltaB x).size ≤ 200000100 := by
  have h1 := intB_size ht
  have h2 := intB_size hn
  have h3 := rowB_size hi h.1 h.2
  have h4 := textB_size (s := rowB x.row) (by omega)
  unfold deltaB
  rw [size_app, size_app]; omega

theorem Bytes28_in {Φ : PW} [Stable Φ] (p : Option Addr) (cap : Nat) (l : List DeltaD) (hT : l ≠ [] → ∀ M w, Φ M w → TabI M w) (hΦ : ∀ M w, Φ M w → Sl M w p l) (hlen : l.length ≤ 400) (hfit : ∀ x ∈ l, Fit x) :
    GivesIn Φ Tryz.prog F.delta_Bytes #[.slice p l.length cap] (.string ⟨(bytesL l).toArray⟩) := by
  have hrow : ∀ x ∈ l, x.row.length ≤ 1000000 := fun x hx => Nat.le_trans (hfit x hx).1 (by decide)
  refine gives_in (Bdelta_Bytes_run p l.length cap) fun W R => ?_
  refine fun w G cx => (Consolidate_sl p cap l hΦ (by omega) hrow).use cx fun p1 c1 w h1 h2 cx => ?_
  have hcfit : ∀ x ∈ consP l, x.row.length ≤ 10000 ∧ ∀ v ∈ x.row, v.text.size ≤ 10000 := consP_row (P := fun r => r.length ≤ 10000 ∧ ∀ v ∈ r, v.text.size ≤ 10000) hfit
  have hcl := consP_len l
  have hcT : consP l ≠ [] → ∀ M w, Φ M w → TabI M w := fun h => hT fun e => h (by rw [e]; rfl)
  unfold bytesL
  obtain ⟨c, hc⟩ : ∃ c, consP l = c := ⟨_, rfl⟩
  rw [hc] at cx h1 hcl hcfit hcT ⊢
  have hTn : Dec (fun M w => (Φ M w ∧ Sl M w p1 c)) (c.length : Int) := by
    cases c with
    | nil => exact .inr ⟨0, by decide, rfl⟩
    | cons x r => exact .inl ⟨fun M w h => hcT (by simp) M w h.1, by unfold I64; omega⟩
  obtain ⟨g, o, cs, hp, cx⟩ := cx.pin cx.phi.2
  have hcs : ∀ j, (hj : j < c.length) → ∃ p q, cs.getD j [] = c[j].cells p q ∧ c[j].row.length ≤ q ∧ q ≤ maxLen ∧ I64 c[j].time ∧ I64 c[j].n := fun j hj => by
    obtain ⟨p, c, h1, h2, h3, h4, h5, _⟩ := pin_delta cx.phi.2 hj
    exact ⟨p, c, h1, h2, h3, h4, h5⟩
  have hI : ∀ j, (hj : j < c.length) → ∀ v ∈ c[j].row, (I64 v.kind ∧ I64 v.num) ∧ v.text.size ≤ maxLen := fun j hj => by
    obtain ⟨q, qc, he, _⟩ := hcs j hj
    exact sl_i64 (pin_row cx.phi.2 hj he)
  have hlenL : ∀ i, i ≤ c.length → (deltasL (c.take i)).length ≤ i * 200000100 := by
    intro i
    induction i with
    | zero => intro _; simp [deltasL]
    | succ i ih =>
      intro hi
      have ih := ih (by omega)
      obtain ⟨_, _, _, _, _, ht, hn⟩ := hcs i (by omega)
      have := deltaB_size ht hn (hI i (by omega)) (hcfit c[i] (List.getElem_mem _))
      rw [List.take_succ_eq_append_getElem (by omega), deltasL_app, deltasL_one, List.length_append, list_size, Nat.add_mul]
      omega
  refine ⟨p1, _, c1, rfl, R, fun M w => (Φ M w ∧ Sl M w p1 c) ∧ Pin g o cs c M w, inferInstance, cx, ?_⟩
  clear cx
  have hst : Stable (fun M w => (Φ M w ∧ Sl M w p1 c) ∧ Pin g o cs c M w) := inferInstance
  intro b w G cx
  have hnum : GivesIn (fun M w => (Φ M w ∧ Sl M w p1 c) ∧ Pin g o cs c M w) Tryz.prog F.wire_Num #[.int .i64 (c.length : Int)] (.string (natB c.length)) := Num_in (by
    rcases hTn with ⟨h1, h2⟩ | h
    · exact .inl ⟨fun M w h => h1 M w h.1, h2⟩
    · exact .inr h)
  have hnat := natB_size (n := (c.length : Int)) (by unfold I64; omega)
  refine hnum.use cx fun w cx => ⟨_, rfl, .blk b [.pointer none, .slice none 0 0] 102 :: R, _, hst, cx, fun w G cx => ?_⟩
  refine WriteString_use (natB c.length) Bd.nil (Bd.fresh cx) (by simp only [List.length_nil]; omega) fun R1 w hB cx => ⟨_, _, rfl, R1 ++ R, _, hst, by rw [List.append_assoc]; exact cx, ?_⟩
  rw [List.nil_append] at hB
  clear cx
  refine exI_mk (fun iI R' Φ' k => ∃ (i : Nat) (Q : List Own), iI = i ∧ i ≤ c.length ∧ BdT b ((natB c.length).data.toList ++ deltasL (c.take i)) Q ∧ R' = Q ++ R ∧ Φ' = (fun M w => (Φ M w ∧ Sl M w p1 c) ∧ Pin g o cs c M w) ∧ k = c.length - i) ⟨⟨_, _, _, hst, fun w G cx => cx, 0, R1, rfl, Nat.zero_le _, by rw [List.take_zero, show deltasL [] = [] from rfl, List.append_nil]; exact hB, rfl, rfl, rfl⟩, ?_⟩
  rintro iI R2 Φ2 k _ ⟨i, Q, rfl, hi, hQ, rfl, rfl, rfl⟩
  refine Br.intro (fun hlt => ?_) (fun hge => fun w G cx => ?_)
  · have hlt : i < c.length := by have := of_decide_eq_true hlt; omega
    obtain ⟨q, qc, he, g1, g2, ht, hn⟩ := hcs i hlt
    have hT2 : ∀ M w, ((Φ M w ∧ Sl M w p1 c) ∧ Pin g o cs c M w) → TabI M w := fun M w h => hcT (fun e => by rw [e] at hlt; exact absurd hlt (by simp)) M w h.1.1
    have hf := hcfit c[i] (List.getElem_mem hlt)
    have hrs := rowB_size (hI i hlt) hf.1 hf.2
    have s1 := intB_size ht
    have s2 := intB_size hn
    have s3 := textB_size (s := rowB c[i].row) (by omega)
    have hsz := deltaB_size ht hn (hI i hlt) hf
    have hLi := hlenL i hi
    have hstep : deltasL (c.take (i + 1)) = deltasL (c.take i) ++ (deltaB c[i]).data.toList := by rw [List.take_succ_eq_append_getElem hlt, deltasL_app, deltasL_one]
    refine ⟨by omega, ptrK_intro g o (hp (by omega)) fun w G cx => ⟨c[i].time, q, c[i].row.length, qc, c[i].n, by rw [Int.toNat_natCast]; exact pin_rowAt cx.phi.2 hlt he, fun _ => ⟨Q ++ R, _, hst, fun w G cx => cx, fun w G cx => (Int_in (.inl ⟨hT2, ht⟩)).toS cx ⟨fun w G cx => cx, fun w G cx => (RowBytes_in q qc c[i].row hT2 (fun M w h => pin_row h.2 hlt he) (by omega) hf.2).toS cx ⟨fun w G cx => cx, fun w G cx => (Text_in (.inl ⟨hT2, by unfold I64; omega⟩) (by omega)).toS cx
      ⟨fun w G cx => cx, by show (intB c[i].time).size + (textB (rowB c[i].row)).size ≤ _; omega, fun w G cx => (Int_in (.inl ⟨hT2, hn⟩)).toS cx ⟨fun w G cx => cx, by show (intB c[i].time ++ textB (rowB c[i].row)).size + (intB c[i].n).size ≤ _; rw [size_app]; omega, fun w G cx => ?_⟩⟩⟩⟩⟩⟩⟩
    have hQl : ((natB c.length).data.toList ++ deltasL (c.take i)).length + (deltaB c[i]).size ≤ 100000000000 := by
      rw [List.length_append, list_size]
      have : i * 200000100 ≤ 400 * 200000100 := Nat.mul_le_mul_right _ (by omega)
      omega
    refine WriteString_use (deltaB c[i]) hQ (cx.re (List.append_assoc _ _ _)) hQl fun Q' w hQ' cx => ⟨_, _, rfl, Q' ++ R, _, hst, by rw [List.append_assoc]; exact cx, by unfold I64; omega, _, _, c.length - (i + 1), hst, fun w G cx => cx, ⟨i + 1, Q', by omega, hlt, ?_, rfl, rfl, rfl⟩, by omega⟩
    rw [hstep, ← List.append_assoc]; exact hQ'
  · have hge : i = c.length := by have := of_decide_eq_false hge; omega
    subst hge
    rw [List.take_length] at hQ
    exact String_use hQ (cx.re (List.append_assoc _ _ _)) fun w cx => ⟨_, rfl, R, _, hst, cx, fun w G cx => ⟨rfl, cx.left.weak fun M w h => h.1.1⟩⟩

/-! ### with answers that are known -/
/-! ### small -/
end Go.Proofs.YtfpgbejdlikpgaaGreatDoor
end

/-
  Count, Multiset, Compact, Times, walked.
-/
section
set_option linter.unusedVariables false
set_option linter.unusedSimpArgs false
namespace Go.Proofs.YtfpgbejdlikpgaaGreatDoor
open Go.Vc


/-! ### Multiset -/
/-! ### Compact -/
/-! ### Times -/
end Go.Proofs.YtfpgbejdlikpgaaGreatDoor
end

/-
  The reference's writer of encodings, walked.
-/
section
set_option linter.unusedVariables false
set_option linter.unusedSimpArgs false
namespace Go.Proofs.YtfpgbejdlikpgaaGreatDoor
open Go.Vc


theorem neg_tmod10 (n : Nat) : (-(n : Int)).tmod 10 = -((n % 10 : Nat) : Int) := by
  rw [Int.neg_tmod]; rfl
theorem neg_tdiv10 (n : Nat) : (-(n : Int)).tdiv 10 = -((n / 10 : Nat) : Int) := by
  rw [Int.neg_tdiv]; rfl
theorem wrap_dig (d : Nat) (h : d < 10) : IntKind.u8.wrap (48 - -(d : Int)) = ((UInt8.ofNat (48 + d)).toNat : Int) := by
  have : ∀ d : Fin 10, IntKind.u8.wrap (48 - -((d.val : Nat) : Int)) = ((UInt8.ofNat (48 + d.val)).toNat : Int) := by decide
  exact this ⟨d, h⟩
theorem mk_app (l : List UInt8) (b : ByteArray) : (⟨l.toArray⟩ : ByteArray) ++ b = ⟨(l ++ b.data.toList).toArray⟩ := by
  apply ByteArray.ext
  rw [ByteArray.data_append]
  apply Array.toList_inj.1
  simp

theorem digits_g : ∀ (n : Nat), n ≤ 9223372036854775808 → Gives Tryz.prog F.errataref01_digits #[.int .i64 (-(n : Int))] (.string ⟨(Lib.decDigits n).toArray⟩) := by
  intro n
  induction n using Nat.strongRecOn with
  | _ n ih =>
    intro hn
    refine gives_of (Berrataref01_digits_run (-(n : Int))) fun W R Φ hs => ?_
    have e0 : (48 : Int) - (-(n : Int)).tmod 10 = 48 - -((n % 10 : Nat) : Int) := by rw [neg_tmod10]
    refine ⟨by omega, by rw [e0]; unfold I64; omega, fun k w G cx => ?_⟩
    rw [e0, wrap_dig _ (by omega)] at cx
    have hcell : ∀ j, (hj : j < [UInt8.ofNat (48 + n % 10)].length) → w.cell? ((⟨k, 0, none⟩ : Addr).add j) = some (.int .u8 ([UInt8.ofNat (48 + n % 10)][j].toNat : Int)) := fun j hj => by
      obtain rfl : j = 0 := by simpa using hj
      exact cx.get 0 rfl rfl
    refine ⟨_, _, run_convert_bytes_back w 100 9 5 ⟨k, 0, none⟩ 1 [UInt8.ofNat (48 + n % 10)] (by kernel_rfl) (by kernel_rfl) (by kernel_rfl) hcell, R, Φ, hs, cx.drop1, ?_⟩
    clear cx
    refine Br.intro (fun h => fun w G cx => ⟨?_, cx.left⟩) (fun h => ?_)
    · have h := of_decide_eq_true h
      rw [Lib.decDigits, dif_pos (by omega), show n % 10 = n by omega]
    · have h := of_decide_eq_false h
      have e1 := neg_tdiv10 n
      refine ⟨by omega, by rw [e1]; unfold I64; omega, fun w G cx => ?_⟩
      rw [e1]
      have hl := nDigits_le 19 (n / 10) (by omega) (by decide)
      have hd := Lib.decDigits_length (n / 10)
      refine ((ih (n / 10) (by omega) (by omega)).in).toS cx ⟨?_, fun w G cx => ⟨?_, cx.left⟩⟩
      · show (ByteArray.mk (Lib.decDigits (n / 10)).toArray).size + 1 ≤ _
        rw [size_list, hd]; omega
      · conv => rhs; rw [Lib.decDigits, dif_neg (by omega)]
        rw [mk_app]

theorem Int01_g (n : Int) (h : I64 n) : Gives Tryz.prog F.errataref01_Int #[.int .i64 n] (.string (intB n)) := by
  have hs := intB_size h
  unfold intB numB at hs
  rw [size_app, size_list, show (ByteArray.mk #[59]).size = 1 from rfl] at hs
  unfold I64 at h
  refine gives_of (Berrataref01_Int_run n) fun W R Φ _ => Br.intro (fun hn => ?_) (fun hn => ?_)
  · have hn := of_decide_eq_true hn
    have e : n = -((n.natAbs : Nat) : Int) := by omega
    have hi : Lib.itoa n = 45 :: Lib.decDigits n.natAbs := by unfold Lib.itoa; rw [if_pos hn]
    have hg := digits_g n.natAbs (by omega)
    rw [← e] at hg
    rw [hi, List.length_cons] at hs
    have e45 : (ByteArray.mk #[45]) ++ ByteArray.mk (Lib.decDigits n.natAbs).toArray = numB n := by
      unfold numB
      rw [show (ByteArray.mk #[45]) = ⟨[(45 : UInt8)].toArray⟩ from rfl, mk_app, hi]
      rfl
    refine fun w G cx => (hg.in).toS cx ⟨?_, ?_, fun w G cx => ⟨?_, cx.left⟩⟩
    · show 1 + (ByteArray.mk (Lib.decDigits n.natAbs).toArray).size ≤ _
      rw [size_list]; omega
    · show ((ByteArray.mk #[45]) ++ ByteArray.mk (Lib.decDigits n.natAbs).toArray).size + 1 ≤ _
      have e1 : (ByteArray.mk #[45]).size = 1 := rfl
      rw [size_app, size_list (Lib.decDigits n.natAbs), e1]
      omega
    · unfold intB
      rw [← e45]
  · have hn := of_decide_eq_false hn
    have e : 0 - n = -((n.toNat : Nat) : Int) := by omega
    have hi : Lib.itoa n = Lib.decDigits n.toNat := by unfold Lib.itoa; rw [if_neg hn]
    have hg := digits_g n.toNat (by omega)
    rw [← e, ← hi] at hg
    refine ⟨by unfold I64; omega, fun w G cx => (hg.in).toS cx ⟨?_, fun w G cx => ⟨rfl, cx.left⟩⟩⟩
    show (ByteArray.mk (Lib.itoa n).toArray).size + 1 ≤ _
    rw [size_list]; omega

theorem Num01_g (n : Int) (h : I64 n) : Gives Tryz.prog F.errataref01_Num #[.int .i64 n] (.string (natB n)) := by
  refine gives_of (Berrataref01_Num_run n) fun W R Φ _ => Br.intro (fun hn => fun w G cx => ⟨?_, cx.left⟩) (fun hn => fun w G cx => ((Int01_g n h).in).toS cx fun w G cx => ⟨?_, cx.left⟩)
  · unfold natB; rw [if_pos (of_decide_eq_true hn)]
  · unfold natB; rw [if_neg (of_decide_eq_false hn)]

theorem Text01_g (s : ByteArray) (hs : s.size ≤ 1000000000000) : Gives Tryz.prog F.errataref01_Text #[.string s] (.string (textB s)) := by
  have h1 := numB_size (n := (s.size : Int)) (by unfold I64; omega)
  have e : (0 : Int) - s.size = -((s.size : Nat) : Int) := by omega
  have hg := digits_g s.size (by omega)
  have hi : Lib.itoa (s.size : Int) = Lib.decDigits s.size := by unfold Lib.itoa; rw [if_neg (by omega)]; rfl
  rw [← e, ← hi] at hg
  have e1 : (ByteArray.mk #[58]).size = 1 := rfl
  refine gives_of (Berrataref01_Text_run s) fun W R Φ _ => ⟨by unfold I64; omega, fun w G cx => (hg.in).toS cx ⟨?_, ?_, ?_, fun w G cx => ⟨rfl, cx.left⟩⟩⟩
  · show (numB s.size).size + 1 ≤ _; omega
  · show (numB s.size ++ ByteArray.mk #[58]).size + s.size ≤ _; rw [size_app, e1]; omega
  · show (numB s.size ++ ByteArray.mk #[58] ++ s).size + 1 ≤ _; rw [size_app, size_app, e1]; omega

theorem Bytes03_g (v : ValD) (h1 : I64 v.kind) (h2 : I64 v.num) (hs : v.text.size ≤ 1000000000000) : Gives Tryz.prog F.errataref03_Bytes #[v.v] (.string (valB v)) := by
  have a := intB_size h1
  have b := intB_size h2
  have c := textB_size (s := v.text) (by omega)
  refine gives_of (Berrataref03_Bytes_run v.kind v.num v.text) fun W R Φ _ => ?_
  exact fun _ => ⟨R, Φ, inferInstance, fun w G cx => cx, fun w G cx => ((Int01_g v.kind h1).in).toS cx ⟨fun w G cx => cx, fun w G cx => ((Int01_g v.num h2).in).toS cx ⟨fun w G cx => cx, by show (intB v.kind).size + (intB v.num).size ≤ _; omega,
    fun w G cx => ((Text01_g v.text hs).in).toS cx ⟨fun w G cx => cx, by show (intB v.kind ++ intB v.num).size + (textB v.text).size ≤ _; rw [size_app]; omega, fun w G cx => ⟨rfl, cx.left⟩⟩⟩⟩⟩

theorem RowBytes03_in {Φ : PW} [Stable Φ] (p : Option Addr) (cap : Nat) (r : List ValD) (hΦ : ∀ M w, Φ M w → Sl M w p r) (hr : r.length ≤ 1000000) (ht : ∀ v ∈ r, v.text.size ≤ 10000) :
    GivesIn Φ Tryz.prog F.errataref03_RowBytes #[.slice p r.length cap] (.string (rowB r)) := by
  refine .there (fun M w h => (hΦ M w h).there) fun hth => .know (fun M w h => sl_i64 (hΦ M w h)) fun hi => ?_
  have hv : ∀ v ∈ r, (I64 v.kind ∧ I64 v.num) ∧ v.text.size ≤ 10000 := fun v h => ⟨(hi v h).1, ht v h⟩
  have hL := rowL_len hv (by decide) hr
  have hL : (rowL r).length ≤ 20000000000 := by
    have : r.length * (10000 + 64) ≤ 1000000 * 10064 := Nat.mul_le_mul hr (Nat.le_refl _)
    omega
  refine gives_in (Berrataref03_RowBytes_run p r.length cap) fun W R => ?_
  refine fun w G cx => ((Num01_g (r.length : Int) (by unfold I64; omega)).in).toS cx ?_
  clear cx
  refine exI_mk (fun s iI R' Φ' k => ∃ i : Nat, iI = i ∧ i ≤ r.length ∧ s = ⟨((natB r.length).data.toList ++ valsL (r.take i)).toArray⟩ ∧ R' = R ∧ Φ' = Φ ∧ k = r.length - i) ⟨⟨R, Φ, _, inferInstance, fun w G cx => cx, 0, rfl, Nat.zero_le _, by rw [List.take_zero, show valsL [] = [] from rfl, List.append_nil], rfl, rfl, rfl⟩, ?_⟩
  rintro s iI R2 Φ2 k _ ⟨i, rfl, hi, rfl, rfl, rfl, rfl⟩
  refine Br.intro (fun hlt => ?_) (fun hge => fun w G cx => ⟨?_, cx.left⟩)
  · have hlt : i < r.length := by have := of_decide_eq_true hlt; omega
    obtain ⟨g, o, rfl⟩ := hth (by omega)
    obtain ⟨⟨h1, h2⟩, h3⟩ := hv r[i] (List.getElem_mem hlt)
    have hsz := valB_size h1 h2 (by omega)
    have hlen : ((natB r.length).data.toList ++ valsL (r.take (i + 1))).length ≤ 20000000000 := by
      have e : valsL r = valsL (r.take (i + 1)) ++ valsL (r.drop (i + 1)) := by rw [← valsL_app, List.take_append_drop]
      unfold rowL at hL
      rw [e, List.length_append, List.length_append] at hL
      rw [List.length_append]; omega
    have hstep : valsL (r.take (i + 1)) = valsL (r.take i) ++ (valB r[i]).data.toList := by rw [List.take_succ_eq_append_getElem hlt, valsL_app, valsL_one]
    refine ⟨by omega, ptrK_intro g o rfl fun w G cx => ⟨r[i].kind, r[i].num, r[i].text, by rw [Int.toNat_natCast]; exact sl_val (hΦ _ _ cx.phi) hlt, fun w G cx => ((Bytes03_g r[i] h1 h2 (by omega)).in).toS cx ⟨?_, by unfold I64; omega, R2, Φ2, r.length - (i + 1), inferInstance, fun w G cx => cx, ⟨i + 1, by omega, hlt, ?_, rfl, rfl, rfl⟩, by omega⟩⟩⟩
    · show (ByteArray.mk ((natB r.length).data.toList ++ valsL (r.take i)).toArray).size + (valB r[i]).size ≤ _
      rw [hstep, ← List.append_assoc, List.length_append, list_size] at hlen
      rw [size_list]; omega
    · rw [mk_app, List.append_assoc, hstep]
  · have hge : i = r.length := by have := of_decide_eq_false hge; omega
    subst hge
    rw [List.take_length]
    rfl
end Go.Proofs.YtfpgbejdlikpgaaGreatDoor
end

/-
  The reference's other functions on lists of deltas, walked.
-/
section
set_option linter.unusedVariables false
set_option linter.unusedSimpArgs false
namespace Go.Proofs.YtfpgbejdlikpgaaGreatDoor
open Go.Vc


theorem Con28_pin {Φ : PW} [Stable Φ] (p : Option Addr) (cap : Nat) (l : List DeltaD) (b o : Nat) (cs : List (List Value)) (hp : 0 < l.length → p = some ⟨b, o, none⟩) (hΦ : ∀ M w, Φ M w → Pin b o cs l M w) (hlen : l.length ≤ 9223372036854775807) :
    GivesIn Φ Tryz.prog F.errataref28_Consolidated #[.slice p l.length cap] (.bool (consolidated l)) := by
  refine in_cells hΦ fun hcs => ?_
  refine gives_in (Berrataref28_Consolidated_run p l.length cap) fun W R => ?_
  refine exI_mk (fun n R' Φ' k => ∃ i : Nat, n = i ∧ i ≤ l.length ∧ R' = R ∧ Φ' = Φ ∧ k = l.length - i ∧ ∀ j, j < i → consAt l j = true) ⟨⟨R, Φ, _, inferInstance, fun w F c => c, 0, rfl, Nat.zero_le _, rfl, rfl, rfl, fun j hj => by omega⟩, ?_⟩
  rintro n R1 Φ1 k _ ⟨i, rfl, hi, rfl, rfl, rfl, hok⟩
  refine Br.intro (fun hlt => ?_) (fun hge => fun w F cx => ⟨?_, cx.left⟩)
  · have hlt : i < l.length := by simpa using hlt
    have hp := hp (by omega)
    obtain ⟨q, qc, he, hq1, hq2, _, _⟩ := hcs i hlt
    have row : ∀ {w : World} {S : List Own}, Ctx W w S Φ1 → RowAt w b (o + (i : Int).toNat * 3) (l[i].cells q qc) := fun cx => by rw [Int.toNat_natCast]; exact pin_rowAt (hΦ _ _ cx.phi) hlt he
    refine ⟨R1, Φ1, inferInstance, fun w G cx => cx, by omega, ptrK_intro b o hp ⟨l[i].n, fun w G cx => ⟨l[i].n, ?_, rfl⟩, Br.intro (fun h0 => fun w F cx => ⟨?_, cx.left⟩) (fun h0 => Br.intro (fun h1 => ?_) (fun h1 => ?_))⟩⟩
    · have := row cx 2 (by simp)
      simpa using this
    · have h0 : l[i].n = 0 := by simpa using h0
      rw [consolidated_false hlt]
      unfold consAt
      rw [List.getElem?_eq_getElem hlt]
      simp [h0]
    · have h0 : ¬ l[i].n = 0 := by simpa using h0
      have h1 : 0 < i := by simpa using h1
      obtain ⟨j, rfl⟩ : ∃ j, i = j + 1 := ⟨i - 1, by omega⟩
      obtain ⟨q', qc', he', hq1', hq2', _, _⟩ := hcs j (by omega)
      have hc : consAt l (j + 1) = decide (cmpD l[j] l[j + 1] < 0) := by
        unfold consAt
        simp only
        rw [List.getElem?_eq_getElem hlt, List.getElem?_eq_getElem (show j < l.length by omega)]
        simp [h0]
      refine ⟨by unfold I64; omega, by omega, ptrK_intro b o hp ⟨_, _, _, _, _, fun w G cx => ⟨_, _, _, _, _, row cx, rfl⟩, by omega, ptrK_intro b o hp ⟨l[j].time, q', l[j].row.length, qc', l[j].n, fun w G cx => ⟨_, _, _, _, _, ?_, rfl⟩, fun w G cx => (rCompareD_in l[j] l[j + 1] q' q qc' qc (fun M w h => pin_row (hΦ M w h) _ he') (fun M w h => pin_row (hΦ M w h) _ he) (len_max hq1' hq2')).toI cx ?_⟩⟩⟩
      · have := pin_rowAt (hΦ _ _ cx.phi) (show j < l.length by omega) he'
        rw [show (max (((j + 1 : Nat) : Int) - 1) 0).toNat = j by omega]
        exact this
      · refine Br.intro (fun h2 => fun w F cx => ⟨?_, cx.left⟩) (fun h2 => ⟨by unfold I64; omega, R1, Φ1, l.length - (j + 1 + 1), inferInstance, fun w F c => c, ⟨j + 1 + 1, rfl, hlt, rfl, rfl, rfl, fun i hi => ?_⟩, by omega⟩)
        · have h2 : 0 ≤ cmpD l[j] l[j + 1] := by simpa using h2
          rw [consolidated_false hlt]
          rw [hc, decide_eq_false (by omega)]
        · have h2 : ¬ 0 ≤ cmpD l[j] l[j + 1] := by simpa using h2
          rcases Nat.lt_or_ge i (j + 1) with h | h
          · exact hok i h
          · rw [show i = j + 1 by omega, hc, decide_eq_true (by omega)]
    · have h0 : ¬ l[i].n = 0 := by simpa using h0
      have h1 : i = 0 := by simpa using h1
      subst h1
      refine ⟨by unfold I64; omega, R1, Φ1, l.length - 1, inferInstance, fun w F c => c, ⟨1, rfl, hlt, rfl, rfl, rfl, fun i hi => ?_⟩, by omega⟩
      rw [show i = 0 by omega]
      unfold consAt
      simp only
      rw [List.getElem?_eq_getElem hlt]
      simp [h0]
  · have hge : i = l.length := Nat.le_antisymm hi (by simpa using hge)
    rw [consolidated_true (hge ▸ hok)]

section
variable {Φ : PW} {p q : Option Addr} {cap cap2 : Nat} {a b l : List DeltaD} {t : Int}

theorem Con28H [Stable Φ] [hΦ : Has Φ (fun M w => Sl M w p l)] (hlen : l.length ≤ 1000000) : GivesIn Φ Tryz.prog F.errataref28_Consolidated #[.slice p l.length cap] (.bool (consolidated l)) :=
  .pinned hΦ.go fun b o cs hp => Con28_pin (Φ := fun M w => Φ M w ∧ Pin b o cs l M w) p cap l b o cs hp (fun _ _ h => h.2) (by omega)
theorem Cons28H [Stable Φ] [hΦ : Has Φ (fun M w => Sl M w p l)] (hc1 : l.length ≤ cap) (hc2 : cap ≤ maxLen) (hlen : l.length ≤ 1000000) (hrow : Rows1 l) : GivesSl Φ Tryz.prog F.errataref28_Consolidate #[.slice p l.length cap] (consP l) id :=
  Cons28_sl p cap l hΦ.go hc1 hc2 hlen hrow

end
end Go.Proofs.YtfpgbejdlikpgaaGreatDoor
end

/-
  Times, ints, and the reference's encoding of deltas, walked.
-/
section
set_option linter.unusedVariables false
set_option linter.unusedSimpArgs false
namespace Go.Proofs.YtfpgbejdlikpgaaGreatDoor
open Go.Vc


section
variable {Φ : PW} {p q : Option Addr} {cap cap2 : Nat} {l : List DeltaD}

set_option maxHeartbeats 1000000 in
theorem RBytes28H [Stable Φ] [hΦ : Has Φ (fun M w => Sl M w p l)] (hc1 : l.length ≤ cap) (hc2 : cap ≤ maxLen) (hlen : l.length ≤ 400) (hfit : ∀ x ∈ l, Fit x) : GivesIn Φ Tryz.prog F.errataref28_Bytes #[.slice p l.length cap] (.string ⟨(bytesL l).toArray⟩) := by
  have hrow : ∀ x ∈ l, x.row.length ≤ 1000000 := fun x hx => Nat.le_trans (hfit x hx).1 (by decide)
  refine gives_in (Berrataref28_Bytes_run p l.length cap) fun W R => ?_
  refine fun w G cx => (Cons28H hc1 hc2 (by omega) hrow).use cx fun p1 c1 w h1 h2 cx => ?_
  have hcfit : ∀ x ∈ consP l, x.row.length ≤ 10000 ∧ ∀ v ∈ x.row, v.text.size ≤ 10000 := consP_row (P := fun r => r.length ≤ 10000 ∧ ∀ v ∈ r, v.text.size ≤ 10000) hfit
  have hcl := consP_len l
  unfold bytesL
  obtain ⟨c, hc⟩ : ∃ c, consP l = c := ⟨_, rfl⟩
  rw [hc] at cx h1 hcl hcfit ⊢
  obtain ⟨g, o, cs, hp, cx⟩ := cx.pin cx.phi.2
  have hcs := Ctx.cells cx (fun M w h => h.2)
  have hI : ∀ j, (hj : j < c.length) → ∀ v ∈ c[j].row, (I64 v.kind ∧ I64 v.num) ∧ v.text.size ≤ maxLen := fun j hj => by
    obtain ⟨q, qc, he, _⟩ := hcs j hj
    exact sl_i64 (pin_row cx.phi.2 hj he)
  have hlenL : ∀ i, i ≤ c.length → (deltasL (c.take i)).length ≤ i * 200000100 := by
    intro i
    induction i with
    | zero => intro _; simp [deltasL]
    | succ i ih =>
      intro hi
      have ih := ih (by omega)
      obtain ⟨_, _, _, _, _, ht, hn⟩ := hcs i (by omega)
      have := deltaB_size ht hn (hI i (by omega)) (hcfit c[i] (List.getElem_mem _))
      rw [List.take_succ_eq_append_getElem (by omega), deltasL_app, deltasL_one, List.length_append, list_size, Nat.add_mul]
      omega
  have hst : Stable (fun M w => (Φ M w ∧ Sl M w p1 c) ∧ Pin g o cs c M w) := inferInstance
  refine ⟨p1, _, c1, rfl, R, fun M w => (Φ M w ∧ Sl M w p1 c) ∧ Pin g o cs c M w, hst, cx, ?_⟩
  clear cx
  have hnat := natB_size (n := (c.length : Int)) (by unfold I64; omega)
  refine fun w G cx => ((Num01_g (c.length : Int) (by unfold I64; omega)).in).toS cx ?_
  clear cx
  refine exI_mk (fun s iI R' Φ' k => ∃ i : Nat, iI = i ∧ i ≤ c.length ∧ s = ⟨((natB c.length).data.toList ++ deltasL (c.take i)).toArray⟩ ∧ R' = R ∧ Φ' = (fun M w => (Φ M w ∧ Sl M w p1 c) ∧ Pin g o cs c M w) ∧ k = c.length - i) ⟨⟨_, _, _, hst, fun w G cx => cx, 0, rfl, Nat.zero_le _, by rw [List.take_zero, show deltasL [] = [] from rfl, List.append_nil], rfl, rfl, rfl⟩, ?_⟩
  rintro s iI R2 Φ2 k _ ⟨i, rfl, hi, rfl, rfl, rfl, rfl⟩
  refine Br.intro (fun hlt => ?_) (fun hge => fun w G cx => ⟨?_, cx.left.weak fun M w h => h.1.1⟩)
  · have hlt : i < c.length := by have := of_decide_eq_true hlt; omega
    obtain ⟨q, qc, he, g1, g2, ht, hn⟩ := hcs i hlt
    have hf := hcfit c[i] (List.getElem_mem hlt)
    have hrs := rowB_size (hI i hlt) hf.1 hf.2
    have s1 := intB_size ht
    have s2 := intB_size hn
    have s3 := textB_size (s := rowB c[i].row) (by omega)
    have hsz := deltaB_size ht hn (hI i hlt) hf
    have hLi := hlenL i hi
    have hb : i * 200000100 ≤ 400 * 200000100 := Nat.mul_le_mul_right _ (by omega)
    have hstep : deltasL (c.take (i + 1)) = deltasL (c.take i) ++ (deltaB c[i]).data.toList := by rw [List.take_succ_eq_append_getElem hlt, deltasL_app, deltasL_one]
    have hS : (ByteArray.mk ((natB c.length).data.toList ++ deltasL (c.take i)).toArray).size ≤ 100000000000 := by
      rw [size_list, List.length_append, list_size]; omega
    have row : ∀ {w : World} {S : List Own}, Ctx W w S (fun M w => (Φ M w ∧ Sl M w p1 c) ∧ Pin g o cs c M w) → RowAt w g (o + (i : Int).toNat * 3) (c[i].cells q qc) := fun cx => by rw [Int.toNat_natCast]; exact pin_rowAt cx.phi.2 hlt he
    obtain ⟨S, hSe⟩ : ∃ S, ByteArray.mk ((natB c.length).data.toList ++ deltasL (c.take i)).toArray = S := ⟨_, rfl⟩
    have hfin : S ++ intB c[i].time ++ textB (rowB c[i].row) ++ intB c[i].n = ⟨((natB c.length).data.toList ++ deltasL (c.take (i + 1))).toArray⟩ := by
      rw [← hSe, ByteArray.append_assoc, ByteArray.append_assoc, mk_app, hstep, List.append_assoc, ← ByteArray.append_assoc]
      rfl
    rw [hSe] at hS ⊢
    refine ⟨R2, _, hst, fun w G cx => cx, by omega, ptrK_intro g o (hp (by omega)) ⟨by omega, ptrK_intro g o (hp (by omega)) ⟨by omega, ptrK_intro g o (hp (by omega)) ⟨c[i].time, fun w G cx => ⟨c[i].time, by have := row cx 0 (by simp); simpa using this, rfl⟩, q, c[i].row.length, qc, fun w G cx => ⟨q, _, qc, by have := row cx 1 (by simp); simpa using this, rfl⟩, c[i].n, fun w G cx => ⟨c[i].n, by have := row cx 2 (by simp); simpa using this, rfl⟩, fun w G cx => ?_⟩⟩⟩⟩
    refine ((Int01_g c[i].time ht).in).toS cx ⟨fun w G cx => cx, by show S.size + (intB c[i].time).size ≤ _; omega, fun w G cx => (RowBytes03_in (Φ := fun M w => (Φ M w ∧ Sl M w p1 c) ∧ Pin g o cs c M w) q qc c[i].row (fun M w h => pin_row h.2 hlt he) (by omega) hf.2).toS cx ⟨fun w G cx => cx, fun w G cx => ((Text01_g (rowB c[i].row) (by omega)).in).toS cx ⟨fun w G cx => cx, by show (S ++ intB c[i].time).size + (textB (rowB c[i].row)).size ≤ _; rw [size_app]; omega,
      fun w G cx => ((Int01_g c[i].n hn).in).toS cx ⟨fun w G cx => cx, by show (S ++ intB c[i].time ++ textB (rowB c[i].row)).size + (intB c[i].n).size ≤ _; rw [size_app, size_app]; omega, by unfold I64; omega, _, _, c.length - (i + 1), hst, fun w G cx => cx, ⟨i + 1, by omega, hlt, hfin, rfl, rfl, rfl⟩, by omega⟩⟩⟩⟩
  · have hge : i = c.length := by have := of_decide_eq_false hge; omega
    subst hge
    rw [List.take_length]
end
end Go.Proofs.YtfpgbejdlikpgaaGreatDoor
end

/-
  Right rows: walked (the first part of lLd, for seats without a ledger).
-/
section
set_option linter.unusedVariables false
set_option linter.unusedSimpArgs false
namespace Go.Proofs.YtfpgbejdlikpgaaGreatDoor
open Go.Vc


/-! ### right rows -/
theorem vInt_g (n : Int) : Gives Tryz.prog F.value_Int #[.int .i64 n] (.agg #[.int .i64 0, .int .i64 n, .string (ByteArray.mk #[])]) :=
  gives_of (Bvalue_Int_run n) fun W R Φ _ => fun _ w G c => ⟨rfl, c.left⟩
theorem vText_g (s : ByteArray) : Gives Tryz.prog F.value_Text #[.string s] (.agg #[.int .i64 1, .int .i64 0, .string s]) :=
  gives_of (Bvalue_Text_run s) fun W R Φ _ => fun _ w G c => ⟨rfl, c.left⟩
theorem vBool_g (b : Bool) : Gives Tryz.prog F.value_Bool #[.bool b] (.agg #[.int .i64 2, .int .i64 (if b = true then 1 else 0), .string (ByteArray.mk #[])]) :=
  gives_of (Bvalue_Bool_run b) fun W R Φ _ => fun _ => Br.intro (fun h => fun w G c => ⟨by rw [if_pos h], c.left⟩) (fun h => fun w G c => ⟨by rw [if_neg (by rw [h]; simp)], c.left⟩)

theorem vRight_g (x : ValD) : Gives Tryz.prog F.value_Right #[x.v] (.bool (rightV3 x)) := by
  refine gives_of (Bvalue_Right_run x.kind x.num x.text) fun W R Φ _ => fun _ => Br.intro (fun h => ?_) (fun h => Br.intro (fun h2 => ?_) (fun h2 => ?_))
  · refine ⟨R, Φ, inferInstance, fun w G c => c, fun w G cx => (vInt_g x.num).use cx fun w c => ⟨0, x.num, ByteArray.mk #[], rfl, R, Φ, inferInstance, c, fun w G c => c, by kernel_rfl, fun w G c => ⟨?_, c.left⟩⟩⟩
    have h := of_decide_eq_true h
    unfold rightV3
    rw [if_pos h, decide_eq_true h, decide_eq_true rfl, Bool.true_and, Bool.true_and, Bool.and_true]
  · refine ⟨R, Φ, inferInstance, fun w G c => c, fun w G cx => (vText_g x.text).use cx fun w c => ⟨1, 0, x.text, rfl, R, Φ, inferInstance, c, fun w G c => c, by kernel_rfl, ?_⟩⟩
    have h := of_decide_eq_false h
    have h2 := of_decide_eq_true h2
    refine Br.intro (fun h3 => fun w G c => ⟨?_, c.left⟩) (fun h3 => fun w G c => ⟨?_, c.left⟩)
    · unfold rightV3
      rw [if_neg h, if_pos h2]
      have : x.num = 0 := by simp at h3; exact h3.2
      rw [decide_eq_true this, Bool.true_and]
    · unfold rightV3
      rw [if_neg h, if_pos h2]
      have : x.num ≠ 0 := by
        intro e
        rw [decide_eq_true h2, decide_eq_true e, decide_eq_true rfl] at h3
        cases h3
      rw [decide_eq_false this, Bool.false_and]
  · have h := of_decide_eq_false h
    have h2 := of_decide_eq_false h2
    have hr : rightV3 x = (decide (x.kind = 2) && (decide (x.num = 0) || decide (x.num = 1)) && decide (x.text = ByteArray.mk #[])) := by unfold rightV3; rw [if_neg h, if_neg h2]
    refine ⟨R, Φ, inferInstance, fun w G c => c, fun w G cx => (vBool_g false).use cx fun w c => ⟨2, 0, ByteArray.mk #[], rfl, R, Φ, inferInstance, c, fun w G c => c, R, Φ, inferInstance, fun w G c => c, by kernel_rfl, ?_⟩⟩
    refine Br.intro (fun h3 => fun w G c => ⟨?_, c.left⟩) (fun h3 => fun w G cx => (vBool_g true).use cx fun w c => ⟨2, 1, ByteArray.mk #[], rfl, R, Φ, inferInstance, c, fun w G c => c, by kernel_rfl, fun w G c => ⟨?_, c.left⟩⟩)
    · rw [hr]
      simp at h3
      simp [h3]
    · rw [hr]
      congr 1
      by_cases k1 : x.kind = 2
      · by_cases k2 : x.text = ByteArray.mk #[]
        · by_cases k3 : x.num = 0
          · rw [k1, k2, k3] at h3
            simp at h3
          · simp [k1, k2, k3]
        · simp [k2]
      · simp [k1]

section
variable {Φ : PW} {W w : World} {R S G : List Own} {p : Option Addr} {cap : Nat} {r : List ValD}

theorem all1_g (x : ValD) : Gives Tryz.prog F.value_all_1 #[x.v] (.bool (!rightV3 x)) :=
  gives_of (Bvalue_all_1_run x.kind x.num x.text) fun W R Φ _ => fun _ w G cx => (vRight_g x).use cx fun w c => ⟨_, rfl, R, Φ, inferInstance, c, fun w G c => ⟨rfl, c.left⟩⟩

theorem IndexV_in [Stable Φ] (f : FuncId) (g : ValD → Bool) [hΦ : Has Φ (fun M w => Sl M w p r)] (hlen : r.length ≤ maxLen) (hf : okFun Tryz.prog f = true) (cp : Array Value) (hg : ∀ x : ValD, Gives Tryz.prog f (Array.mk (x.v :: cp.toList)) (.bool (g x))) :
    GivesIn Φ Tryz.prog F.slices_IndexFunc_api_Value_api_Value #[.slice p r.length cap, .func (.func f) #[] cp] (.int .i64 (findI g 0 r)) := by
  refine .there (fun M w h => (hΦ.go M w h).there) fun hth => ?_
  refine gives_in (Bslices_IndexFunc_api_Value_api_Value_run p r.length cap f cp) fun W R => ?_
  refine exI_mk (fun n R' Φ' k => ∃ i : Nat, n = i ∧ i ≤ r.length ∧ R' = R ∧ Φ' = Φ ∧ k = r.length - i ∧ findI g 0 r = findI g i (r.drop i)) ⟨⟨R, Φ, _, inferInstance, fun w F c => c, 0, rfl, Nat.zero_le _, rfl, rfl, rfl, rfl⟩, ?_⟩
  rintro n R1 Φ1 k _ ⟨i, rfl, hi, rfl, rfl, rfl, hor⟩
  refine Br.intro (fun hlt => ?_) (fun hge => fun w F cx => ⟨?_, cx.left⟩)
  · have hlt : i < r.length := by simpa using hlt
    rw [findI_drop g r i hlt] at hor
    obtain ⟨b, o, rfl⟩ := hth (by omega)
    refine ⟨by omega, ptrK_intro b o rfl fun w F cx => ⟨r[i].kind, r[i].num, r[i].text, by rw [Int.toNat_natCast]; exact sl_val (hΦ.go _ _ cx.phi) hlt, fun w F cx => ⟨hf, (hg r[i]).use cx fun w cx => ⟨g r[i], rfl, R1, Φ1, inferInstance, cx, Br.intro (fun h => fun w F cx => ⟨?_, cx.left⟩) (fun h => ⟨by unfold I64; unfold maxLen at hlen; omega, R1, Φ1, r.length - (i + 1), inferInstance, fun w F c => c, ⟨i + 1, rfl, hlt, rfl, rfl, rfl, ?_⟩, by omega⟩)⟩⟩⟩⟩
    · rw [hor, if_pos h]
    · rw [hor, if_neg (by rw [h]; simp)]
  · have hge : i = r.length := Nat.le_antisymm hi (by simpa using hge)
    rw [hor, hge, List.drop_length]
    rfl

theorem RightRow_in [Stable Φ] [hΦ : Has Φ (fun M w => Sl M w p r)] : GivesIn Φ Tryz.prog F.value_RightRow #[.slice p r.length cap] (.bool (rightR r)) := by
  refine gives_in (Bvalue_RightRow_run p r.length cap) fun W R => Br.intro (fun h => ?_) (fun h => fun w G cx => ⟨?_, cx.left⟩)
  · have h1 := of_decide_eq_true h
    have hml : r.length ≤ maxLen := by have h2 : (12 : Nat) ≤ maxLen := (by decide); omega
    have hcon : GivesIn Φ Tryz.prog F.slices_ContainsFunc_api_Value_api_Value #[.slice p r.length cap, .func (.func F.value_all_1) #[] #[]] (.bool (r.any fun x => !rightV3 x)) := by
      refine gives_in (Bslices_ContainsFunc_api_Value_api_Value_run p r.length cap F.value_all_1 #[]) fun W R => ?_
      exact fun w G cx => (IndexV_in (r := r) F.value_all_1 (fun x => !rightV3 x) hml (by kernel_rfl) #[] all1_g).toI cx fun w G cx => ⟨by rw [findI_any], cx.left⟩
    have hall : GivesIn Φ Tryz.prog F.value_all #[.slice p r.length cap] (.bool (r.all rightV3)) := by
      refine gives_in (Bvalue_all_run p r.length cap) fun W R => ?_
      refine fun w G cx => hcon.toB cx fun w G cx => ⟨?_, cx.left⟩
      rw [List.all_eq_not_any_not]
    refine fun w G cx => hall.toB cx fun w G cx => ⟨?_, cx.left⟩
    unfold rightR
    rw [decide_eq_true h1, Bool.true_and]
  · unfold rightR
    rw [decide_eq_false (of_decide_eq_false h), Bool.false_and]

end
end Go.Proofs.YtfpgbejdlikpgaaGreatDoor
end

/-
  The reader of encodings: in plain Lean, and walked.
-/
section
set_option linter.unusedVariables false
set_option linter.unusedSimpArgs false
namespace Go.Vc
/-- a variable that holds an error, or none, in a block that nobody writes -/
def ErrAt (g : Nat) : PW := fun M w => g ∉ M ∧ ∃ ev, w.cell? ⟨g, 0, none⟩ = some ev ∧ (ev = .nilIface ∨ ∃ te pe, ev = .iface te pe)
instance instStableErrAt (g : Nat) : Stable (ErrAt g) := ⟨fun {M M' w w'} hs ⟨h1, ev, h2, h3⟩ => by
  have hlt : g < w.heap.size := by
    rcases Nat.lt_or_ge g w.heap.size with h' | h'
    · exact h'
    · simp [World.cell?, Array.getElem?_eq_none h'] at h2
  refine ⟨fun hm => ?_, ev, hs.chg.cell h2 h1, h3⟩
  rcases hs.sub g hm with h | h
  · exact h1 h
  · omega⟩
theorem chg_below {w w' : World} (h : Go.RowKit.Below w.heap.size w w') : Chg [] w w' := ⟨h.os, h.tape, h.output, h.size, fun k hk _ => h.block k hk⟩
theorem eqGuard_iface {P : Program} {op : BinOp} {t : TypeId} {ox oy : Operand} {u : TypeId} {v : Value} (w : World) : (eqGuard op t ox oy (.iface u v) .nilIface).run P w = .ok () w := by
  unfold eqGuard
  cases op <;> rfl
theorem eqGuard_nil {P : Program} {op : BinOp} {t : TypeId} {k : Nat} {v : Value} (w : World) : (eqGuard op t (.tmp k) (.const v) .nilIface .nilIface).run P w = .ok () w := by
  unfold eqGuard
  cases op <;> rfl
theorem neq_nil {P : Program} {op : BinOp} {t t' : TypeId} {k : Nat} {v : Value} (ht : P.isIface t' = true) (w : World) : ((eqGuard op t (.tmp k) (.const v) .nilIface .nilIface) >>= fun _ => binOp .neq t' .nilIface .nilIface).run P w = .ok (.bool false) w := by
  rw [Sem.run_bind, eqGuard_nil]
  exact Go.run_neq_nil_nil_at w t' ht
theorem neq_err {P : Program} {op : BinOp} {t t' : TypeId} {ox oy : Operand} {u : TypeId} {v : Value} (ht : P.isIface t' = true) (w : World) : ((eqGuard op t ox oy (.iface u v) .nilIface) >>= fun _ => binOp .neq t' (.iface u v) .nilIface).run P w = .ok (.bool true) w := by
  rw [Sem.run_bind, eqGuard_iface]
  exact Go.run_neq_iface_nil w t' ht u v
end Go.Vc
namespace Go.Proofs.YtfpgbejdlikpgaaGreatDoor
open Go.Vc


/-- what the reading of numbers looks at -/
def NumI : PW := fun M w => TabI M w ∧ ErrAt 2 M w ∧ ErrAt 3 M w
instance instStableNumI : Stable NumI := instStableAnd TabI (fun M w => ErrAt 2 M w ∧ ErrAt 3 M w)

/-! ### in plain Lean -/
def bs (l : List UInt8) : ByteArray := ⟨l.toArray⟩
theorem bs_list (l : List UInt8) : (bs l).data.toList = l := rfl
theorem bs_size (l : List UInt8) : (bs l).size = l.length := size_list l
theorem bs_ext (l : List UInt8) (a b : Nat) : (bs l).extract a b = bs ((l.drop a).take (b - a)) := by
  apply ByteArray.ext
  apply Array.toList_inj.1
  rw [ByteArray.data_extract, Array.toList_extract]
  rfl
theorem bs_inj {a b : List UInt8} : bs a = bs b ↔ a = b := ⟨fun h => by have := congrArg (fun x => x.data.toList) h; exact this, fun h => by rw [h]⟩
theorem bs_of (s : ByteArray) : bs s.data.toList = s := rfl

/-- what is left, and whether it has failed -/
abbrev RdS := List UInt8 × Bool
def numP (e : UInt8) (least : Int) (l : List UInt8) : Option (Int × List UInt8) :=
  let i := Lib.indexByte (l.take 21) e
  if i < 0 then none else match Lib.atoiAll (l.take i.toNat) with
    | .ok n => if Lib.itoa n = l.take i.toNat ∧ least ≤ n then some (n, l.drop (i.toNat + 1)) else none
    | _ => none
def stepN (e : UInt8) (least : Int) (st : RdS) : Int × RdS := match numP e least st.1 with
  | some (n, r) => (n, (r, st.2))
  | none => (0, ([], true))
def stepC (c : UInt8) (st : RdS) : RdS := match st.1 with
  | [] => ([], true)
  | x :: r => if x = c then (r, st.2) else ([], true)
def stepT (st : RdS) : ByteArray × RdS :=
  let a := stepN 58 0 st
  if (a.2.1.length : Int) < a.1 then (ByteArray.mk #[], ([], true)) else
    let c := stepC 44 (a.2.1.drop a.1.toNat, a.2.2)
    (if c.2 then ByteArray.mk #[] else bs (a.2.1.take a.1.toNat), c)

theorem at_of_split {l r : List UInt8} {i : Nat} {e : UInt8} (h : l.take i ++ e :: r = l) (hi : i < l.length) : l[i]? = some e := by
  have hl : (l.take i).length = i := by rw [List.length_take]; omega
  rw [← h, List.getElem?_append_right (by omega), hl, Nat.sub_self]
  rfl
theorem index_neg : ∀ (l : List UInt8) (c : UInt8), -1 ≤ Lib.indexByte l c ∧ (Lib.indexByte l c = -1 ∨ (0 ≤ Lib.indexByte l c ∧ Lib.indexByte l c < l.length ∧ l.take (Lib.indexByte l c).toNat ++ c :: l.drop ((Lib.indexByte l c).toNat + 1) = l ∧ c ∉ l.take (Lib.indexByte l c).toNat))
  | [], c => by simp [Lib.indexByte]
  | b :: l, c => by
    have ih := index_neg l c
    unfold Lib.indexByte
    by_cases hb : (b == c) = true
    · rw [if_pos hb]
      have : b = c := by simpa using hb
      subst this
      refine ⟨by omega, .inr ⟨by omega, by simp, by simp, by simp⟩⟩
    · rw [if_neg hb]
      by_cases h1 : (Lib.indexByte l c == -1) = true
      · rw [if_pos h1]; exact ⟨by omega, .inl rfl⟩
      · rw [if_neg h1]
        have h1 : Lib.indexByte l c ≠ -1 := by simpa using h1
        obtain ⟨h2, h3⟩ := ih
        rcases h3 with h3 | ⟨h3, h4, h5, h6⟩
        · exact absurd h3 h1
        · have e : (Lib.indexByte l c + 1).toNat = (Lib.indexByte l c).toNat + 1 := by omega
          refine ⟨by omega, .inr ⟨by omega, by simp; omega, ?_, ?_⟩⟩
          · rw [e, List.take_succ_cons, List.drop_succ_cons, List.cons_append, h5]
          · rw [e, List.take_succ_cons, List.mem_cons, not_or]
            exact ⟨fun e => hb (by simp [e]), h6⟩

theorem index_least {l : List UInt8} {c : UInt8} {a r : List UInt8} (hl : l = a ++ c :: r) (hc : c ∉ a) : Lib.indexByte l c = a.length := by
  subst hl
  induction a with
  | nil => simp [Lib.indexByte]
  | cons b a ih =>
    have hb : b ≠ c := fun e => hc (by simp [e])
    have ih := ih fun h => hc (by simp [h])
    rw [List.cons_append]
    unfold Lib.indexByte
    rw [if_neg (by simpa using hb), if_neg (by rw [ih]; simp), ih]
    simp

/-- digits and the sign -/
theorem digits_chars : ∀ (u : Nat), ∀ c ∈ Lib.decDigits u, 48 ≤ c.toNat ∧ c.toNat ≤ 57 := by
  intro u
  induction u using Nat.strongRecOn with
  | _ u ih =>
    intro c hc
    rw [Lib.decDigits] at hc
    split at hc
    · rename_i h
      rw [List.mem_singleton] at hc
      subst hc
      have : (UInt8.ofNat (48 + u)).toNat = 48 + u := by simp; omega
      omega
    · rename_i h
      rcases List.mem_append.1 hc with hc | hc
      · exact ih (u / 10) (by omega) c hc
      · rw [List.mem_singleton] at hc
        subst hc
        have : (UInt8.ofNat (48 + u % 10)).toNat = 48 + u % 10 := by simp; omega
        omega
theorem itoa_chars {n : Int} {c : UInt8} (h : c ∈ Lib.itoa n) : c.toNat = 45 ∨ 48 ≤ c.toNat ∧ c.toNat ≤ 57 := by
  unfold Lib.itoa at h
  split at h
  · rcases List.mem_cons.1 h with rfl | h
    · left; rfl
    · right; exact digits_chars _ c h
  · right; exact digits_chars _ c h

/-! ### the decimal form, read back -/
def digV (acc : Nat) (l : List UInt8) : Nat := l.foldl (fun a c => a * 10 + (c.toNat - 48)) acc
theorem digV_snoc (acc : Nat) (l : List UInt8) (c : UInt8) : digV acc (l ++ [c]) = digV acc l * 10 + (c.toNat - 48) := by simp [digV]
theorem digV_dec : ∀ u : Nat, digV 0 (Lib.decDigits u) = u := by
  intro u
  induction u using Nat.strongRecOn with
  | _ u ih =>
    rw [Lib.decDigits]
    split
    · rename_i h
      show 0 * 10 + ((UInt8.ofNat (48 + u)).toNat - 48) = u
      have : (UInt8.ofNat (48 + u)).toNat = 48 + u := by simp; omega
      omega
    · rename_i h
      rw [digV_snoc, ih (u / 10) (by omega)]
      have : (UInt8.ofNat (48 + u % 10)).toNat = 48 + u % 10 := by simp; omega
      omega
theorem digV_mono : ∀ (l : List UInt8) (acc : Nat), acc ≤ digV acc l
  | [], acc => Nat.le_refl _
  | c :: l, acc => by
    have := digV_mono l (acc * 10 + (c.toNat - 48))
    show acc ≤ digV (acc * 10 + (c.toNat - 48)) l
    omega
theorem parse_dig : ∀ (l : List UInt8) (acc : Nat), (∀ c ∈ l, 48 ≤ c.toNat ∧ c.toNat ≤ 57) → digV acc l < 18446744073709551616 → Lib.parseUint10 acc l = .ok (digV acc l)
  | [], acc, _, _ => rfl
  | c :: l, acc, hc, h => by
    have h0 := hc c (by simp)
    have hm := digV_mono l (acc * 10 + (c.toNat - 48))
    have e : digV acc (c :: l) = digV (acc * 10 + (c.toNat - 48)) l := rfl
    rw [e] at h ⊢
    unfold Lib.parseUint10
    rw [if_pos h0, if_neg (by omega), if_neg (by omega)]
    exact parse_dig l _ (fun d hd => hc d (by simp [hd])) h

theorem dec_ne (u : Nat) : Lib.decDigits u ≠ [] := by
  intro e
  have h1 := Lib.decDigits_length u
  have h2 := Lib.nDigits_pos u
  rw [e] at h1
  simp at h1
  omega
theorem mag_dec {u : Nat} (h : u < 18446744073709551616) : Lib.parseMag (Lib.decDigits u) = .ok u := by
  unfold Lib.parseMag
  rw [if_neg (dec_ne u), parse_dig _ 0 (digits_chars u) (by rw [digV_dec]; exact h), digV_dec]

theorem atoi_itoa {n : Int} (h : I64 n) : Lib.atoiAll (Lib.itoa n) = .ok n := by
  unfold I64 at h
  unfold Lib.itoa
  split
  · rename_i hn
    have hm := mag_dec (u := n.natAbs) (by omega)
    unfold Lib.atoiAll
    simp only
    rw [if_pos (.inr rfl), hm]
    simp only
    have e45 : (45 : UInt8).toNat = 45 := rfl
    rw [if_neg (by intro h; exact h.1 e45), if_neg (by intro h; omega), if_pos e45]
    congr 1
    omega
  · rename_i hn
    have hm := mag_dec (u := n.toNat) (by omega)
    obtain ⟨c, r, hcr⟩ : ∃ c r, Lib.decDigits n.toNat = c :: r := by
      cases hd : Lib.decDigits n.toNat with
      | nil => exact absurd hd (dec_ne _)
      | cons c r => exact ⟨c, r, rfl⟩
    have h0 := digits_chars n.toNat c (by rw [hcr]; simp)
    rw [hcr] at hm ⊢
    unfold Lib.atoiAll
    simp only
    rw [if_neg (by omega), hm]
    simp only
    rw [if_neg (by omega), if_neg (by omega), if_neg (by omega)]
    congr 1
    omega

/-- what a number's reading says -/
theorem numP_iff {e : UInt8} (he : e.toNat = 58 ∨ e.toNat = 59 ∨ e.toNat = 91) {least : Int} {l : List UInt8} {n : Int} {r : List UInt8} : numP e least l = some (n, r) ↔ (I64 n ∧ least ≤ n) ∧ l = Lib.itoa n ++ e :: r := by
  have hne : ∀ n : Int, e ∉ Lib.itoa n := fun n h => by have := itoa_chars h; omega
  constructor
  · intro h
    unfold numP at h
    simp only at h
    split at h
    · cases h
    · rename_i hi
      split at h
      · rename_i m hm
        split at h
        · rename_i hc
          cases h
          have hb := Lib.atoiAll_bounds hm
          obtain ⟨_, h3⟩ := index_neg (l.take 21) e
          rcases h3 with h3 | ⟨h3, h4, h5, h6⟩
          · omega
          · refine ⟨⟨by unfold I64; omega, hc.2⟩, ?_⟩
            rw [hc.1]
            have hlt : (Lib.indexByte (l.take 21) e).toNat < (l.take 21).length := by omega
            have hlt2 : (Lib.indexByte (l.take 21) e).toNat < l.length := by rw [List.length_take] at hlt; omega
            have hg : l[(Lib.indexByte (l.take 21) e).toNat] = e := by
              have h7 : (l.take 21)[(Lib.indexByte (l.take 21) e).toNat]? = some e := at_of_split h5 (by omega)
              rw [List.getElem?_take_of_lt (by rw [List.length_take] at hlt; omega), List.getElem?_eq_getElem hlt2] at h7
              exact Option.some.inj h7
            conv => lhs; rw [← List.take_append_drop (Lib.indexByte (l.take 21) e).toNat l, List.drop_eq_getElem_cons hlt2, hg]
        · cases h
      · cases h
  · rintro ⟨⟨h1, h2⟩, rfl⟩
    have hlen := itoa_len h1
    have ht : (Lib.itoa n ++ e :: r).take 21 = Lib.itoa n ++ e :: r.take (20 - (Lib.itoa n).length) := by
      rw [List.take_append, List.take_of_length_le (by omega)]
      congr 1
      rw [show 21 - (Lib.itoa n).length = (20 - (Lib.itoa n).length) + 1 by omega, List.take_succ_cons]
    have hi := index_least ht (hne n)
    unfold numP
    simp only
    rw [hi, if_neg (by omega), Int.toNat_natCast, List.take_left', atoi_itoa h1]
    · simp only
      rw [if_pos ⟨by simp, h2⟩]
      congr 2
      rw [List.drop_append, List.drop_of_length_le (by omega), List.nil_append, show (Lib.itoa n).length + 1 - (Lib.itoa n).length = 1 by omega]
      rfl
    · rfl

/-! ### walked -/
abbrev rd (b : Nat) (st : RdS) : Own := .blk b [.string (bs st.1), .bool st.2] 89

section
variable {W w : World} {R G S : List Own} {Φ : PW} {b : Nat} {st : RdS}

theorem Open_use [Stable Φ] (l : List UInt8) (c : Ctx W w S Φ) {K : Ending → World → Prop} (hk : ∀ b w', Ctx W w' (rd b (l, false) :: S) Φ → K (.returned (.pointer (some ⟨b, 0, none⟩))) w') :
    Calls Tryz.prog F.wire_Open #[.string (bs l)] w K := by
  refine (Bwire_Open_run (bs l) (J := fun u w' => K (.returned u) w') c ?_).mono fun e w' ⟨v, he, hj⟩ => by rw [he]; exact hj
  exact fun b w G cx => hk b w (Ctx.left (S := rd b (l, false) :: S) cx)

theorem fail_use [Stable Φ] (c : Ctx W w (rd b st :: S) Φ) {K : Ending → World → Prop} (hk : ∀ w', Ctx W w' (rd b ([], true) :: S) Φ → K (.returned (.tuple #[])) w') :
    Calls Tryz.prog F.wire_Reader_fail #[.pointer (some ⟨b, 0, none⟩)] w K := by
  refine (Bwire_Reader_fail_run b 0 (J := fun u w' => K (.returned u) w') c ?_).mono fun e w' ⟨v, he, hj⟩ => by rw [he]; exact hj
  refine fun w G cx => ⟨cx.can 0 rfl (by simp), fun w' hw' => ⟨.blk b [.string (bs []), .bool st.2] 89 :: S, Φ, inferInstance, cx.put 0 hw' rfl, fun w G cx => ⟨cx.can 0 rfl (by simp), fun w' hw' => ⟨rd b ([], true) :: S, Φ, inferInstance, cx.put 0 hw' rfl, fun w G cx => hk w cx.left⟩⟩⟩⟩

theorem fail_to [Stable Φ] (c : Ctx W w (rd b st :: S ++ G) Φ) {K : List Own → PW → Prop} (hk : K (rd b ([], true) :: S) Φ) :
    Calls Tryz.prog F.wire_Reader_fail #[.pointer (some ⟨b, 0, none⟩)] w fun e w' => e = .returned (.tuple #[]) ∧ ∃ R' Φ', Stable Φ' ∧ Ctx W w' (R' ++ G) Φ' ∧ K R' Φ' :=
  fail_use (S := S ++ G) c fun w' c => ⟨rfl, rd b ([], true) :: S, Φ, inferInstance, c, hk⟩

theorem index_g (s : ByteArray) (c : Int) : Gives Tryz.prog F.strings_IndexByte #[.string s, .int .u8 c] (.int .i64 (Lib.indexByte s.data.toList c.toNat.toUInt8)) :=
  Quiet.gives ⟨fun w => Any.strings_IndexByte Tryz.lays137 s c w⟩

theorem atoi_to [Stable Φ] (h1 : ∀ M w, Φ M w → ErrAt 2 M w) (h2 : ∀ M w, Φ M w → ErrAt 3 M w) (s : ByteArray) (hs : s.size ≤ 1000000) (c : Ctx W w (R ++ G) Φ) {K1 : Int → List Own → PW → Prop} {K2 : Int → TypeId → Value → List Own → PW → Prop}
    (k1 : ∀ n, Lib.atoiAll s.data.toList = .ok n → K1 n R Φ) (k2 : ∀ n t v, (∀ m, Lib.atoiAll s.data.toList ≠ .ok m) → K2 n t v R Φ) :
    Calls Tryz.prog F.strconv_Atoi #[.string s] w fun e w' => (∃ n : Int, e = .returned (.tuple #[.int .i64 n, .nilIface]) ∧ ∃ R' Φ', Stable Φ' ∧ Ctx W w' (R' ++ G) Φ' ∧ K1 n R' Φ') ∨
      ∃ (n : Int) (t : TypeId) (v : Value), e = .returned (.tuple #[.int .i64 n, .iface t v]) ∧ ∃ R' Φ', Stable Φ' ∧ Ctx W w' (R' ++ G) Φ' ∧ K2 n t v R' Φ' := by
  obtain ⟨_, ev, hv, hev⟩ := h1 _ _ c.phi
  obtain ⟨_, er, hr, her⟩ := h2 _ _ c.phi
  cases h : Lib.atoiAll s.data.toList
  · rename_i n
    refine (Any.strconv_Atoi_ok Tryz.laysC172 s (by omega) n h w).mono fun e w' ⟨he, hw⟩ => .inl ⟨n, he, R, Φ, inferInstance, ?_, k1 n h⟩
    rcases hw with rfl | ⟨t, rfl⟩
    · exact c
    · exact c.call (chg_below (Lib.bytesWorld_below _ _ _))
  · exact (Any.strconv_Atoi_syntax Tryz.laysC172 s (by omega) h ev w hv hev).mono fun e w' ⟨N, he, _, _, hb⟩ => .inr ⟨_, _, _, he, R, Φ, inferInstance, c.call (chg_below hb), k2 _ _ _ fun m hm => by rw [h] at hm; cases hm⟩
  · exact (Any.strconv_Atoi_range Tryz.laysC172 s (by omega) h er w hr her).mono fun e w' ⟨N, he, _, _, hb⟩ => .inr ⟨_, _, _, he, R, Φ, inferInstance, c.call (chg_below hb), k2 _ _ _ fun m hm => by rw [h] at hm; cases hm⟩

theorem stepN_none {e : UInt8} {least : Int} (h : numP e least st.1 = none) : stepN e least st = (0, ([], true)) := by unfold stepN; rw [h]
theorem stepN_some {e : UInt8} {least n : Int} {r : List UInt8} (h : numP e least st.1 = some (n, r)) : stepN e least st = (n, (r, st.2)) := by unfold stepN; rw [h]

set_option maxHeartbeats 2000000 in
theorem number_use [Stable Φ] (hΦ : ∀ M w, Φ M w → NumI M w) (e : Int) (least : Int) (hl : st.1.length ≤ 1000000000000000) (c : Ctx W w (rd b st :: S) Φ) {K : Ending → World → Prop}
    (hk : ∀ w', Ctx W w' (rd b (stepN e.toNat.toUInt8 least st).2 :: S) Φ → K (.returned (.int .i64 (stepN e.toNat.toUInt8 least st).1)) w') :
    Calls Tryz.prog F.wire_Reader_number #[.pointer (some ⟨b, 0, none⟩), .int .u8 e, .int .i64 least] w K := by
  refine (Bwire_Reader_number_run b 0 e least (J := fun u w' => K (.returned u) w') c ?_).mono fun e w' ⟨v, he, hj⟩ => by rw [he]; exact hj
  clear c
  obtain ⟨l, bad⟩ := st
  simp only at hl
  have hsz : (bs l).size = l.length := bs_size l
  have hmin : (min ((bs l).size : Int) 21).toNat = min l.length 21 := by rw [hsz]; omega
  have hhead : (bs l).extract 0 (min ((bs l).size : Int) 21).toNat = bs (l.take 21) := by
    rw [hmin, bs_ext, List.drop_zero, Nat.sub_zero]
    congr 1
    rcases Nat.le_total l.length 21 with h | h
    · rw [Nat.min_eq_left h, List.take_of_length_le (Nat.le_refl _), List.take_of_length_le h]
    · rw [Nat.min_eq_right h]
  refine fun w G cx => ⟨bs l, cx.get 0 rfl rfl, bs l, cx.get 0 rfl rfl, by omega, fun w G cx => ?_⟩
  rw [hhead]
  refine (index_g (bs (l.take 21)) e).in.toI (R := rd b (l, bad) :: S) cx ?_
  rw [bs_list]
  obtain ⟨i, hi⟩ : ∃ i, Lib.indexByte (l.take 21) e.toNat.toUInt8 = i := ⟨_, rfl⟩
  obtain ⟨hge, hidx⟩ := index_neg (l.take 21) e.toNat.toUInt8
  rw [hi] at hge hidx ⊢
  have failK : numP e.toNat.toUInt8 least l = none → ∀ (w : World) (G : List Own), Ctx W w (rd b (l, bad) :: S ++ G) Φ → Calls Tryz.prog F.wire_Reader_fail #[.pointer (some ⟨b, 0, none⟩)] w fun e w' => e = .returned (.tuple #[]) ∧ ∃ R' Φ', Stable Φ' ∧ Ctx W w' (R' ++ G) Φ' ∧ ∀ w F1, Ctx W w (R' ++ F1) Φ' → K (.returned (.int .i64 0)) w := fun hn w G cx => by
    rw [stepN_none (st := (l, bad)) hn] at hk
    exact fail_to (S := S) cx fun w F1 cx => hk w cx.left
  refine Br.intro (fun hneg => fun w G cx => failK ?_ w G cx) (fun hpos => ?_)
  · unfold numP
    simp only [hi]
    rw [if_pos (of_decide_eq_true hneg)]
  have hpos := of_decide_eq_false hpos
  rcases hidx with hidx | ⟨_, hlt, _, _⟩
  · omega
  have hlt2 : i.toNat < (l.take 21).length := by omega
  have hll : (l.take 21).length ≤ l.length := by rw [List.length_take]; omega
  have h21 : (l.take 21).length ≤ 21 := by rw [List.length_take]; omega
  have hhd : (bs (l.take 21)).extract 0 i.toNat = bs (l.take i.toNat) := by
    rw [bs_ext, List.drop_zero, Nat.sub_zero, List.take_take, Nat.min_eq_left (by omega)]
  refine ⟨⟨by omega, by rw [bs_size]; omega⟩, fun w G cx => ?_⟩
  rw [hhd]
  refine atoi_to (R := rd b (l, bad) :: S) (fun M w h => (hΦ M w h).2.1) (fun M w h => (hΦ M w h).2.2) (bs (l.take i.toNat)) (by rw [bs_size, List.length_take]; omega) cx (fun n hn => ?_) (fun n t v hn => ?_)
  · rw [bs_list] at hn
    have hb := Lib.atoiAll_bounds hn
    refine ⟨rd b (l, bad) :: S, Φ, inferInstance, fun w G cx => cx, false, fun w => neq_nil (by decide +kernel) w, Br.intro (fun h => by cases h) (fun _ => ⟨⟨by omega, by rw [bs_size]; omega⟩, fun w G cx => ?_⟩)⟩
    refine (Itoa_in (fun M w h => (hΦ M w h).1) n (by unfold I64; omega)).toS cx ⟨fun w G cx => cx, Br.intro (fun hne => fun w G cx => failK ?_ w G cx) (fun heq => Br.intro (fun hls => fun w G cx => failK ?_ w G cx) (fun hls => fun w G cx => ?_))⟩
    · have hne := of_decide_eq_true hne
      unfold numP
      simp only [hi]
      rw [if_neg (by omega), hn]
      simp only
      rw [if_neg (fun h => hne (by show bs (Lib.itoa n) = _; rw [h.1]))]
    · unfold numP
      simp only [hi]
      rw [if_neg (by omega), hn]
      simp only
      rw [if_neg (fun h => by have := of_decide_eq_true hls; omega)]
    · have heq : Lib.itoa n = l.take i.toNat := bs_inj.1 (Decidable.not_not.1 (of_decide_eq_false heq))
      have hls := of_decide_eq_false hls
      have hnum : numP e.toNat.toUInt8 least l = some (n, l.drop (i.toNat + 1)) := by
        unfold numP
        simp only [hi]
        rw [if_neg (by omega), hn]
        simp only
        rw [if_pos ⟨heq, by omega⟩]
      rw [stepN_some (st := (l, bad)) hnum] at hk
      have hex : (bs l).extract (i + 1).toNat (bs l).size = bs (l.drop (i.toNat + 1)) := by
        rw [bs_ext, hsz, show (i + 1).toNat = i.toNat + 1 by omega]
        congr 1
        exact List.take_of_length_le (by rw [List.length_drop]; omega)
      refine ⟨bs l, cx.get 0 rfl rfl, ?_, ⟨by omega, by omega, Nat.le_refl _⟩, fun w G cx => ⟨cx.can 0 rfl (by simp), fun w' hw' => ?_⟩⟩
      · unfold I64
        omega
      rw [hex] at hw'
      exact ⟨rd b (l.drop (i.toNat + 1), bad) :: S, Φ, inferInstance, cx.put 0 hw' rfl, fun w G cx => hk w cx.left⟩
  · rw [bs_list] at hn
    refine ⟨[], fun _ _ => True, inferInstance, fun w G cx => (cx.weak fun _ _ _ => trivial).right, true, fun w => ?_, Br.intro (fun _ => fun w G cx => failK ?_ w G cx) (fun h => by cases h)⟩
    · exact neq_err (by decide +kernel) w
    · unfold numP
      simp only [hi]
      rw [if_neg (by omega)]

theorem number_to [Stable Φ] (hΦ : ∀ M w, Φ M w → NumI M w) (e : Int) (least : Int) (hl : st.1.length ≤ 1000000000000000) (c : Ctx W w (rd b st :: S ++ G) Φ) {K : Int → List Own → PW → Prop}
    (hk : K (stepN e.toNat.toUInt8 least st).1 (rd b (stepN e.toNat.toUInt8 least st).2 :: S) Φ) :
    Calls Tryz.prog F.wire_Reader_number #[.pointer (some ⟨b, 0, none⟩), .int .u8 e, .int .i64 least] w fun e w' => ∃ n, e = .returned (.int .i64 n) ∧ ∃ R' Φ', Stable Φ' ∧ Ctx W w' (R' ++ G) Φ' ∧ K n R' Φ' :=
  number_use (S := S ++ G) hΦ e least hl c fun w' c => ⟨_, rfl, _, Φ, inferInstance, c, hk⟩

def rdInt (st : RdS) : Int × RdS := stepN 59 (-9223372036854775808) st
def rdNat (st : RdS) : Int × RdS := stepN 59 0 st

theorem RInt_to [Stable Φ] (hΦ : ∀ M w, Φ M w → NumI M w) (hl : st.1.length ≤ 1000000000000000) (c : Ctx W w (rd b st :: S ++ G) Φ) {K : Int → List Own → PW → Prop}
    (hk : K (rdInt st).1 (rd b (rdInt st).2 :: S) Φ) :
    Calls Tryz.prog F.wire_Reader_Int #[.pointer (some ⟨b, 0, none⟩)] w fun e w' => ∃ n, e = .returned (.int .i64 n) ∧ ∃ R' Φ', Stable Φ' ∧ Ctx W w' (R' ++ G) Φ' ∧ K n R' Φ' := by
  refine (Bwire_Reader_Int_run b 0 (J := fun u w' => ∃ n, (Ending.returned u) = .returned (.int .i64 n) ∧ ∃ R' Φ', Stable Φ' ∧ Ctx W w' (R' ++ G) Φ' ∧ K n R' Φ') (R := rd b st :: (S ++ G)) c ?_).mono fun e w' ⟨v, he, hj⟩ => by rw [he]; exact hj
  exact fun w F1 cx => number_to (S := S ++ G) hΦ 59 _ hl cx fun w F1 cx => ⟨_, rfl, _, Φ, inferInstance, cx.left, hk⟩
theorem RNum_to [Stable Φ] (hΦ : ∀ M w, Φ M w → NumI M w) (hl : st.1.length ≤ 1000000000000000) (c : Ctx W w (rd b st :: S ++ G) Φ) {K : Int → List Own → PW → Prop}
    (hk : K (rdNat st).1 (rd b (rdNat st).2 :: S) Φ) :
    Calls Tryz.prog F.wire_Reader_Num #[.pointer (some ⟨b, 0, none⟩)] w fun e w' => ∃ n, e = .returned (.int .i64 n) ∧ ∃ R' Φ', Stable Φ' ∧ Ctx W w' (R' ++ G) Φ' ∧ K n R' Φ' := by
  refine (Bwire_Reader_Num_run b 0 (J := fun u w' => ∃ n, (Ending.returned u) = .returned (.int .i64 n) ∧ ∃ R' Φ', Stable Φ' ∧ Ctx W w' (R' ++ G) Φ' ∧ K n R' Φ') (R := rd b st :: (S ++ G)) c ?_).mono fun e w' ⟨v, he, hj⟩ => by rw [he]; exact hj
  exact fun w F1 cx => number_to (S := S ++ G) hΦ 59 _ hl cx fun w F1 cx => ⟨_, rfl, _, Φ, inferInstance, cx.left, hk⟩

theorem Left_to [Stable Φ] (c : Ctx W w (rd b st :: S ++ G) Φ) {K : Int → List Own → PW → Prop} (hk : K st.1.length (rd b st :: S) Φ) :
    Calls Tryz.prog F.wire_Reader_Left #[.pointer (some ⟨b, 0, none⟩)] w fun e w' => ∃ n, e = .returned (.int .i64 n) ∧ ∃ R' Φ', Stable Φ' ∧ Ctx W w' (R' ++ G) Φ' ∧ K n R' Φ' := by
  refine (Bwire_Reader_Left_run b 0 (J := fun u w' => ∃ n, (Ending.returned u) = .returned (.int .i64 n) ∧ ∃ R' Φ', Stable Φ' ∧ Ctx W w' (R' ++ G) Φ' ∧ K n R' Φ') (R := rd b st :: (S ++ G)) c ?_).mono fun e w' ⟨v, he, hj⟩ => by rw [he]; exact hj
  exact fun w F1 cx => ⟨bs st.1, cx.get 0 rfl rfl, fun w F1 cx => ⟨st.1.length, by rw [bs_size], _, Φ, inferInstance, cx.left, hk⟩⟩

def rdDone (st : RdS) : Bool := !st.2 && decide (st.1 = [])
theorem Done_to [Stable Φ] (c : Ctx W w (rd b st :: S ++ G) Φ) {K : Bool → List Own → PW → Prop} (hk : K (rdDone st) (rd b st :: S) Φ) :
    Calls Tryz.prog F.wire_Reader_Done #[.pointer (some ⟨b, 0, none⟩)] w fun e w' => ∃ n, e = .returned (.bool n) ∧ ∃ R' Φ', Stable Φ' ∧ Ctx W w' (R' ++ G) Φ' ∧ K n R' Φ' := by
  refine (Bwire_Reader_Done_run b 0 (J := fun u w' => ∃ n, (Ending.returned u) = .returned (.bool n) ∧ ∃ R' Φ', Stable Φ' ∧ Ctx W w' (R' ++ G) Φ' ∧ K n R' Φ') (R := rd b st :: (S ++ G)) c ?_).mono fun e w' ⟨v, he, hj⟩ => by rw [he]; exact hj
  refine fun w F1 cx => ⟨st.2, cx.get 0 rfl rfl, bs st.1, fun _ => cx.get 0 rfl rfl, fun w F1 cx => ⟨rdDone st, ?_, _, Φ, inferInstance, cx.left, hk⟩⟩
  have e : decide (bs st.1 = ByteArray.mk #[]) = decide (st.1 = []) := by
    rw [show ByteArray.mk #[] = bs [] from rfl]
    exact decide_eq_decide.2 bs_inj
  rw [e]
  rfl

theorem prefix_one (c : UInt8) (l : List UInt8) : Lib.hasPrefix l [c] = (match l with | [] => false | x :: _ => x == c) := by
  cases l with
  | nil => rfl
  | cons x r =>
    unfold Lib.hasPrefix
    rw [List.isPrefixOf_cons_cons]
    simp [Bool.beq_comm]

theorem close_to [Stable Φ] (e : UInt8) (c : Ctx W w (rd b st :: S ++ G) Φ) {K : List Own → PW → Prop} (hk : K (rd b (stepC e st) :: S) Φ) :
    Calls Tryz.prog F.wire_Reader_close #[.pointer (some ⟨b, 0, none⟩), .string (ByteArray.mk #[e])] w fun e w' => e = .returned (.tuple #[]) ∧ ∃ R' Φ', Stable Φ' ∧ Ctx W w' (R' ++ G) Φ' ∧ K R' Φ' := by
  refine (Bwire_Reader_close_run b 0 (ByteArray.mk #[e]) (J := fun u w' => (Ending.returned u) = .returned (.tuple #[]) ∧ ∃ R' Φ', Stable Φ' ∧ Ctx W w' (R' ++ G) Φ' ∧ K R' Φ') (R := rd b st :: (S ++ G)) c ?_).mono fun e w' ⟨v, he, hj⟩ => by rw [he]; exact hj
  clear c
  obtain ⟨l, bad⟩ := st
  refine fun w F1 cx => ⟨bs l, cx.get 0 rfl rfl, fun w F1 cx => ?_⟩
  refine (Any.strings_CutPrefix Tryz.lays103 (bs l) (ByteArray.mk #[e]) w).mono fun e2 w' ⟨he, hw⟩ => ?_
  subst hw
  refine ⟨_, _, he, rd b (l, bad) :: (S ++ G), Φ, inferInstance, cx, ?_⟩
  clear cx
  rw [bs_list, show (ByteArray.mk #[e]).data.toList = [e] from rfl]
  unfold Lib.trimPrefix
  rw [prefix_one]
  unfold stepC at hk
  cases l with
  | nil =>
    refine fun w F1 cx => ⟨cx.can 0 rfl (by simp), fun w' hw' => ⟨rd b ([], bad) :: (S ++ G), Φ, inferInstance, cx.put 0 hw' rfl, Br.intro (fun _ => fun w F1 cx => fail_to (S := S ++ G) cx fun w F1 cx => ⟨by first | trivial | rfl, _, Φ, inferInstance, cx.left, hk⟩) (fun h => by cases h)⟩⟩
  | cons x r =>
    simp only at hk ⊢
    by_cases hx : x = e
    · subst hx
      rw [if_pos rfl] at hk
      rw [if_pos (by simp)]
      refine fun w F1 cx => ⟨cx.can 0 rfl (by simp), fun w' hw' => ⟨rd b (r, bad) :: (S ++ G), Φ, inferInstance, cx.put 0 hw' rfl, Br.intro (fun h => by simp at h) (fun _ => fun w F1 cx => ⟨by first | trivial | rfl, _, Φ, inferInstance, cx.left, hk⟩)⟩⟩
    · rw [if_neg hx] at hk
      rw [if_neg (by simpa using hx)]
      refine fun w F1 cx => ⟨cx.can 0 rfl (by simp), fun w' hw' => ⟨rd b (x :: r, bad) :: (S ++ G), Φ, inferInstance, cx.put 0 hw' rfl, Br.intro (fun _ => fun w F1 cx => fail_to (S := S ++ G) cx fun w F1 cx => ⟨by first | trivial | rfl, _, Φ, inferInstance, cx.left, hk⟩) (fun h => by simp at h; exact absurd h hx)⟩⟩

theorem stepN_nonneg {e : UInt8} (he : e.toNat = 58 ∨ e.toNat = 59 ∨ e.toNat = 91) (st : RdS) : 0 ≤ (stepN e 0 st).1 ∧ (stepN e 0 st).1 ≤ 9223372036854775807 := by
  unfold stepN
  split
  · rename_i n r h
    obtain ⟨⟨h1, h2⟩, _⟩ := (numP_iff he).1 h
    unfold I64 at h1
    simp only; omega
  · simp only; omega
theorem stepN_len (e : UInt8) (least : Int) (st : RdS) : (stepN e least st).2.1.length ≤ st.1.length := by
  unfold stepN
  split
  · rename_i n r h
    unfold numP at h
    simp only at h
    split at h
    · cases h
    · split at h
      · split at h
        · cases h
          simp only [List.length_drop]; omega
        · cases h
      · cases h
  · simp

theorem Text_to [Stable Φ] (hΦ : ∀ M w, Φ M w → NumI M w) (hl : st.1.length ≤ 1000000000000000) (c : Ctx W w (rd b st :: S ++ G) Φ) {K : ByteArray → List Own → PW → Prop}
    (hk : K (stepT st).1 (rd b (stepT st).2 :: S) Φ) :
    Calls Tryz.prog F.wire_Reader_Text #[.pointer (some ⟨b, 0, none⟩)] w fun e w' => ∃ n, e = .returned (.string n) ∧ ∃ R' Φ', Stable Φ' ∧ Ctx W w' (R' ++ G) Φ' ∧ K n R' Φ' := by
  refine (Bwire_Reader_Text_run b 0 (J := fun u w' => ∃ n, (Ending.returned u) = .returned (.string n) ∧ ∃ R' Φ', Stable Φ' ∧ Ctx W w' (R' ++ G) Φ' ∧ K n R' Φ') (R := rd b st :: (S ++ G)) c ?_).mono fun e w' ⟨v, he, hj⟩ => by rw [he]; exact hj
  clear c
  refine fun w F1 cx => number_to (S := S ++ G) hΦ 58 0 hl cx ?_
  rw [show ((58 : Int).toNat.toUInt8) = (58 : UInt8) from rfl]
  unfold stepT at hk
  simp only at hk
  have hn := stepN_nonneg (e := 58) (.inl rfl) st
  obtain ⟨⟨n, l, bad⟩, ha⟩ : ∃ a, stepN 58 0 st = a := ⟨_, rfl⟩
  rw [ha] at hk hn ⊢
  simp only at hk hn ⊢
  refine fun w F1 cx => ⟨bs l, cx.get 0 rfl rfl, Br.intro (fun h => ?_) (fun h => ?_)⟩
  · have h := of_decide_eq_true h
    rw [bs_size] at h
    rw [if_pos h] at hk
    exact fun w F1 cx => fail_to (S := S ++ G) cx fun w F1 cx => ⟨_, rfl, _, Φ, inferInstance, cx.left, hk⟩
  · have h := of_decide_eq_false h
    rw [bs_size] at h
    rw [if_neg h] at hk
    have e1 : (bs l).extract n.toNat (bs l).size = bs (l.drop n.toNat) := by
      rw [bs_ext, bs_size]
      congr 1
      exact List.take_of_length_le (by rw [List.length_drop]; omega)
    have e2 : (bs l).extract 0 n.toNat = bs (l.take n.toNat) := by rw [bs_ext, List.drop_zero, Nat.sub_zero]
    refine fun w F1 cx => ⟨bs l, cx.get 0 rfl rfl, ⟨by omega, by rw [bs_size]; omega⟩, fun w F1 cx => ⟨bs l, cx.get 0 rfl rfl, ⟨by omega, by rw [bs_size]; omega, Nat.le_refl _⟩, fun w F1 cx => ⟨cx.can 0 rfl (by simp), fun w' hw' => ?_⟩⟩⟩
    rw [e1] at hw'
    refine ⟨rd b (l.drop n.toNat, bad) :: (S ++ G), Φ, inferInstance, cx.put 0 hw' rfl, fun w F1 cx => close_to (S := S ++ G) 44 cx fun w F1 cx => ⟨(stepC 44 (l.drop n.toNat, bad)).2, cx.get 0 rfl rfl, Br.intro (fun hb => ?_) (fun hb => ?_)⟩⟩
    · rw [hb] at hk
      exact fun w F1 cx => ⟨_, rfl, _, Φ, inferInstance, cx.left, hk⟩
    · rw [hb] at hk
      rw [e2]
      exact fun w F1 cx => ⟨_, rfl, _, Φ, inferInstance, cx.left, hk⟩

end
end Go.Proofs.YtfpgbejdlikpgaaGreatDoor
end

/-
  From what a row lists as laid to the facts of the walk.
-/
section
set_option linter.unusedVariables false
set_option linter.unusedSimpArgs false
namespace Go.Proofs.YtfpgbejdlikpgaaGreatDoor
open Go.Vc Go.RowKit


theorem la_row (u : TypeId) (h : Tryz.prog.typeName? 3 u = some "*errors.errorString") : u = 166 :=
  typeName_ptr_named (nm := "errors.errorString") (by rw [show "*" ++ "errors.errorString" = "*errors.errorString" by decide]; kernel_rfl) (by kernel_rfl) (by decide) u (by rw [show "*" ++ "errors.errorString" = "*errors.errorString" by decide]; exact h)

theorem la_err {n : String} {text : List UInt8} {r : List (String × DataW Unit)} {W : World} {g : Nat} (h : laidMet Tryz.prog ((n, .iface "*errors.errorString" (.ptr (.agg [.lit (.string text)]))) :: r) W)
    (hg : Tryz.prog.globalNamed n = some g) (ht : (Tryz.prog.globals[g]?).map (·.type) = some 104) : ErrAt g [] W := by
  obtain ⟨a, s, hv, _⟩ := laid_sentinel h hg ht Tryz.underlying104 la_row Tryz.underlying166 Tryz.underlying168 rfl rfl Tryz.underlying9 (by kernel_rfl) (by kernel_rfl)
  exact ⟨by simp, _, by have h0 := World.var?_cell hg hv 0; simpa using h0, .inr ⟨_, _, rfl⟩⟩

theorem la_num {W : World} (h : laidMetH Tryz.prog Rows.channelBackRow.laid W) : NumI [] W := by
  rw [MakeChecks.laidMetH_plain Tryz.prog Rows.channelBackRow.laid W (by kernel_rfl)] at h
  have h2 := h.tail.tail
  exact ⟨Tab.start (Lib.tabIs_of_head (k := .u64) (zs := Lib.pow10Tab) (g := 0) (t := 153) (e := 137) (n := 20) (by kernel_rfl) (by kernel_rfl) (by kernel_rfl) (by kernel_rfl) (by kernel_rfl) (by kernel_rfl) h2),
    la_err h2.tail.tail (by kernel_rfl) (by kernel_rfl), la_err h2.tail (by kernel_rfl) (by kernel_rfl)⟩

end Go.Proofs.YtfpgbejdlikpgaaGreatDoor
end

/-
  Messages as plain data; channel.Right, walked. (Out of r36Vb, r36Vc, over the delta family.)
-/
section
set_option linter.unusedVariables false
set_option linter.unusedSimpArgs false
namespace Go.Proofs.YtfpgbejdlikpgaaGreatDoor
open Go.Vc

theorem ContainsD_in {Φ : PW} [Stable Φ] (p : Option Addr) (cap : Nat) (l : List DeltaD) (b o : Nat) (cs : List (List Value)) (f : FuncId) (q : DeltaD → Bool) (hp : 0 < l.length → p = some ⟨b, o, none⟩) (hΦ : ∀ M w, Φ M w → Pin b o cs l M w) (hlen : l.length ≤ 9223372036854775807) (hf : okFun Tryz.prog f = true)
    (hq : ∀ j, (hj : j < l.length) → ∀ r c, cs.getD j [] = l[j].cells r c → l[j].row.length ≤ c → c ≤ maxLen → GivesIn Φ Tryz.prog f #[l[j].v r c] (.bool (q l[j]))) :
    GivesIn Φ Tryz.prog F.slices_ContainsFunc_api_Delta_api_Delta #[.slice p l.length cap, .func (.func f) #[] #[]] (.bool (l.any q)) := by
  refine gives_in (Bslices_ContainsFunc_api_Delta_api_Delta_run p l.length cap f #[]) fun W R => ?_
  exact fun w F cx => (IndexD_in p cap l b o cs f #[] q hp hΦ hlen hf hq).use cx fun w cx => ⟨_, rfl, R, Φ, inferInstance, cx, fun w F cx => ⟨by rw [findI_any], cx.left⟩⟩

theorem Right1_in {Φ : PW} [Stable Φ] (x : DeltaD) (p : Option Addr) (cap : Nat) (hΦ : ∀ M w, Φ M w → Sl M w p x.row) (hlen : x.row.length ≤ 9223372036854775807) :
    GivesIn Φ Tryz.prog F.channel_Right_1 #[x.v p cap] (.bool (!rightR x.row)) := by
  refine gives_in (Bchannel_Right_1_run x.time p x.row.length cap x.n) fun W R => ?_
  exact fun _ w F cx => (RightRow_in (p := p) (cap := cap) (r := x.row) (hΦ := ⟨hΦ⟩)).use cx fun w cx => ⟨_, rfl, R, Φ, inferInstance, cx, fun w F cx => ⟨rfl, cx.left⟩⟩

/-! ### messages -/
structure MsgD where
  kind : Int
  node : Int
  inp : Int
  bucket : Int
  n : Int
  deltas : List DeltaD
instance : Gv MsgD := Gv.via (β := Int × Int × Int × Int × Int × List DeltaD) (fun x => (x.kind, x.node, x.inp, x.bucket, x.n, x.deltas)) (fun y => ⟨y.1, y.2.1, y.2.2.1, y.2.2.2.1, y.2.2.2.2.1, y.2.2.2.2.2⟩) (fun _ => rfl)

abbrev MsgD.cells (x : MsgD) (p : Option Addr) (c : Nat) : List Value := [.int .i64 x.kind, .int .i64 x.node, .int .i64 x.inp, .int .i64 x.bucket, .int .i64 x.n, .slice p x.deltas.length c]
abbrev MsgD.v (x : MsgD) (p : Option Addr) (c : Nat) : Value := .agg #[.int .i64 x.kind, .int .i64 x.node, .int .i64 x.inp, .int .i64 x.bucket, .int .i64 x.n, .slice p x.deltas.length c]

structure MsgD.Ok (x : MsgD) : Prop where
  kind : I64 x.kind
  node : I64 x.node
  inp : I64 x.inp
  bucket : I64 x.bucket
  n : I64 x.n

theorem msg_cells {M : List Nat} {w : World} {cs : List Value} {x : MsgD} (h : Gv.rep M w cs x) : ∃ p c, cs = x.cells p c ∧ x.deltas.length ≤ c ∧ c ≤ maxLen ∧ x.Ok ∧ Sl M w p x.deltas := by
  obtain ⟨_, _, rfl, ⟨rfl, h1⟩, _, _, rfl, ⟨rfl, h2⟩, _, _, rfl, ⟨rfl, h3⟩, _, _, rfl, ⟨rfl, h4⟩, _, _, rfl, ⟨rfl, h5⟩, p, c, rfl, h6, h7, h8⟩ := h
  exact ⟨p, c, rfl, h6, h7, ⟨h1, h2, h3, h4, h5⟩, h8⟩

theorem rep_msg {M : List Nat} {w : World} {x : MsgD} {p : Option Addr} {c : Nat} (h : x.Ok) (h6 : x.deltas.length ≤ c) (h7 : c ≤ maxLen) (h8 : Sl M w p x.deltas) : Gv.rep M w (x.cells p c) x :=
  ⟨[_], _, rfl, ⟨rfl, h.kind⟩, [_], _, rfl, ⟨rfl, h.node⟩, [_], _, rfl, ⟨rfl, h.inp⟩, [_], _, rfl, ⟨rfl, h.bucket⟩, [_], _, rfl, ⟨rfl, h.n⟩, p, c, rfl, h6, h7, h8⟩

theorem msg_sl {M : List Nat} {w : World} {x : MsgD} {p : Option Addr} {c : Nat} (h : Gv.rep M w (x.cells p c) x) : Sl M w p x.deltas := by
  obtain ⟨p', c', e, _, _, _, h1⟩ := msg_cells h
  simp only [MsgD.cells, List.cons.injEq, Value.slice.injEq] at e
  rw [e.2.2.2.2.2.1.1]
  exact h1

/-! ### channel.Right -/
abbrev numsM (m : MsgD) : List Int := [m.node, m.inp, m.bucket, max m.n 0]
def numBad (m : MsgD) (n : Int) : Bool := decide (n < 0) || decide (1099511627776 < n) || decide (m.n < -1)
def headM (m : MsgD) : Bool := !(numsM m).any (numBad m) && !(decide (m.kind < 0) || decide (3 ≤ m.kind) || decide (8 < (m.deltas.length : Int)) || decide (m.kind ≠ 0) && decide (0 < (m.deltas.length : Int)))
def rightM (m : MsgD) : Bool := headM m && consolidated m.deltas && !m.deltas.any fun d => !rightR d.row

theorem nums_at (m : MsgD) {i : Nat} (hi : i < 4) : ∃ n, (numsM m)[i]? = some n ∧ aggAt i [.int .i64 m.node, .int .i64 m.inp, .int .i64 m.bucket, .int .i64 (max m.n 0)] = some (.int .i64 n) := by
  match i, hi with
  | 0, _ => exact ⟨_, rfl, aggAt_eq _ _⟩
  | 1, _ => exact ⟨_, rfl, aggAt_eq _ _⟩
  | 2, _ => exact ⟨_, rfl, aggAt_eq _ _⟩
  | 3, _ => exact ⟨_, rfl, aggAt_eq _ _⟩

set_option maxHeartbeats 1000000 in
theorem Right_in {Φ : PW} [Stable Φ] (p : Option Addr) (cap : Nat) (m : MsgD) (hΦ : ∀ M w, Φ M w → Sl M w p m.deltas) (hlen : m.deltas.length ≤ 9223372036854775807) :
    GivesIn Φ Tryz.prog F.channel_Right #[m.v p cap] (.bool (rightM m)) := by
  refine .pinned hΦ fun b o cs hp => ?_
  refine gives_in (Bchannel_Right_run m.kind m.node m.inp m.bucket m.n p m.deltas.length cap) fun W R => ?_
  refine fun _ => exI_mk (fun n R' Φ' k => ∃ i : Nat, n = i ∧ i ≤ 4 ∧ R' = R ∧ Φ' = (fun M w => Φ M w ∧ Pin b o cs m.deltas M w) ∧ k = 4 - i ∧ ∀ j, j < i → ∀ n, (numsM m)[j]? = some n → numBad m n = false) ⟨⟨R, _, _, inferInstance, fun w F c => c, 0, rfl, Nat.zero_le _, rfl, rfl, rfl, fun j hj => by omega⟩, ?_⟩
  rintro n R1 Φ1 k _ ⟨i, rfl, hi, rfl, rfl, rfl, hok⟩
  refine Br.intro (fun hlt => ?_) (fun hge => fun w G cx => ?_)
  · have hlt : i < 4 := by have := of_decide_eq_true hlt; omega
    obtain ⟨n, hn, ha⟩ := nums_at m hlt
    refine ⟨n, ⟨by omega, by omega, by rw [Int.toNat_natCast, Nat.zero_add]; exact ha⟩, fun w F cx => Br.intro (fun hb => fun w F cx => ⟨?_, cx.left⟩) (fun hb => ⟨by unfold I64; omega, R1, _, 4 - (i + 1), inferInstance, fun w F c => c, ⟨i + 1, rfl, hlt, rfl, rfl, rfl, fun j hj n' hn' => ?_⟩, by omega⟩)⟩
    · have hb : numBad m n = true := hb
      have : (numsM m).any (numBad m) = true := List.any_eq_true.2 ⟨n, List.mem_of_getElem? hn, hb⟩
      unfold rightM headM
      rw [this]; rfl
    · rcases Nat.lt_or_ge j i with h | h
      · exact hok j h n' hn'
      · rw [show j = i by omega, hn] at hn'
        cases hn'
        exact hb
  · have hge : i = 4 := by have := of_decide_eq_false hge; omega
    subst hge
    have hall : (numsM m).any (numBad m) = false := by
      rw [List.any_eq_false]
      intro x hx
      obtain ⟨j, hj⟩ := List.getElem?_of_mem hx
      rw [hok j (List.getElem?_eq_some_iff.1 hj).1 x hj]
      simp
    refine Br.intro (fun h2 => fun w F cx => ⟨?_, cx.left⟩) (fun h2 => fun w G cx => ?_)
    · unfold rightM headM
      rw [h2]
      simp
    · have hhead : headM m = true := by unfold headM; rw [hall, h2]; rfl
      refine (Consolidated_pin (Φ := fun M w => Φ M w ∧ Pin b o cs m.deltas M w) p cap m.deltas b o cs hp (fun _ _ h => h.2) hlen).use cx fun w cx => ⟨_, rfl, R1, _, inferInstance, cx, Br.intro (fun h3 => fun w G cx => ?_) (fun h3 => fun w G cx => ⟨?_, cx.left⟩)⟩
      · refine (ContainsD_in (Φ := fun M w => Φ M w ∧ Pin b o cs m.deltas M w) p cap m.deltas b o cs F.channel_Right_1 (fun d => !rightR d.row) hp (fun _ _ h => h.2) hlen (by kernel_rfl) fun j hj r c e h1 h2 => ?_).use cx fun w cx => ⟨_, rfl, R1, _, inferInstance, cx, fun w G cx => ⟨?_, cx.left⟩⟩
        · exact Right1_in _ r c (fun M w h => pin_row h.2 hj e) (len_max h1 h2)
        · unfold rightM
          rw [hhead, h3]
          rfl
      · unfold rightM
        rw [h3, Bool.and_false]
        rfl

end Go.Proofs.YtfpgbejdlikpgaaGreatDoor
end

/-
  Formulas in an older shape (printed by a program for another seat; numbers of types turned).
-/
section
namespace Go.Proofs.YtfpgbejdlikpgaaGreatDoor
set_option linter.unusedVariables false
set_option linter.unusedSimpArgs false
set_option maxRecDepth 100000
open Go.Vc

def Ochannel_clone (m0 : Int) (m1 : Int) (m2 : Int) (m3 : Int) (m4 : Int) (m5P : Option Addr) (m5N m5C : Nat) (W : World) (R : List Own) (Φ : PW) (J : Value → World → Prop) : Prop :=
  ∀ (k0 b : Nat) (w1 : World) (R2 : List Own), Ctx W w1 (Own.blk k0 [Value.int IntKind.i64 m0, Value.int IntKind.i64 m1, Value.int IntKind.i64 m2, Value.int IntKind.i64 m3, Value.int
  IntKind.i64 m4, Value.slice m5P m5N m5C] 32 :: R ++ R2) Φ → ∃ (p3 : Option Addr), ∃ (k4 : Nat), ∃ (k5 : Nat), w1.cell? (Addr.mk k0 5 none) = some (Value.slice p3 k4 k5) ∧ ∀ (w6 : World) (R7
  : List Own), Ctx W w6 (Own.blk k0 [Value.int IntKind.i64 m0, Value.int IntKind.i64 m1, Value.int IntKind.i64 m2, Value.int IntKind.i64 m3, Value.int IntKind.i64 m4, Value.slice m5P m5N m5C]
  32 :: R ++ R7) Φ → Calls Tryz.prog F.slices_Clone_api_Delta_api_Delta #[Value.slice p3 k4 k5] w6 fun (e8 : Ending) (w9 : World) => ∃ (p10 : Option Addr), ∃ (k11 : Nat), ∃ (k12 : Nat), e8 =
  Ending.returned (Value.slice p10 k11 k12) ∧ ∃ (R13 : List Own), ∃ (Φ14 : PW), Stable Φ14 ∧ Ctx W w9 (R13 ++ R7) Φ14 ∧ ∀ (w15 : World) (R16 : List Own), Ctx W w15 (R13 ++ R16) Φ14 → CanWrite
  w15 k0 5 1 ∧ ∀ (w17 : World), w17 = w15.setCell (Addr.mk k0 5 none) (Value.slice p10 k11 k12) → ∃ (R18 : List Own), ∃ (Φ19 : PW), Stable Φ19 ∧ Ctx W w17 (R18 ++ R16) Φ19 ∧ ∀ (w20 : World)
  (R21 : List Own), Ctx W w20 (R18 ++ R21) Φ19 → ∃ (p22 : Option Addr), ∃ (k23 : Nat), ∃ (k24 : Nat), w20.cell? (Addr.mk k0 5 none) = some (Value.slice p22 k23 k24) ∧ exI fun (I25 : Int →
  List Own → PW → Nat → Prop) => (∃ (R26 : List Own), ∃ (Φ27 : PW), ∃ (k28 : Nat), Stable Φ27 ∧ (∀ (w29 : World) (R30 : List Own), Ctx W w29 (R18 ++ R30) Φ19 → Ctx W w29 (R26 ++ R30) Φ27) ∧
  I25 0 R26 Φ27 k28) ∧ ∀ (n31 : Int) (R32 : List Own) (I33 : List Nat → World → Prop) (k34 : Nat), Stable I33 → I25 n31 R32 I33 k34 → Br (decide (n31 < (↑k23 : Int))) (∃ (R35 : List Own), ∃
  (Φ36 : PW), Stable Φ36 ∧ (∀ (w37 : World) (R38 : List Own), Ctx W w37 (R32 ++ R38) I33 → Ctx W w37 (R35 ++ R38) Φ36) ∧ ∃ (p39 : Option Addr), ∃ (k40 : Nat), ∃ (k41 : Nat), (∀ (w42 : World)
  (R43 : List Own), Ctx W w42 (R35 ++ R43) Φ36 → ∃ (p44 : Option Addr), ∃ (k45 : Nat), ∃ (k46 : Nat), w42.cell? (Addr.mk k0 5 none) = some (Value.slice p44 k45 k46) ∧ Value.slice p44 k45 k46
  = Value.slice p39 k40 k41) ∧ ∃ (p47 : Option Addr), ∃ (k48 : Nat), ∃ (k49 : Nat), (∀ (w50 : World) (R51 : List Own), Ctx W w50 (R35 ++ R51) Φ36 → ∃ (p52 : Option Addr), ∃ (k53 : Nat), ∃
  (k54 : Nat), w50.cell? (Addr.mk k0 5 none) = some (Value.slice p52 k53 k54) ∧ Value.slice p52 k53 k54 = Value.slice p47 k48 k49) ∧ (0 ≤ n31 ∧ n31 < (↑k48 : Int)) ∧ ptrK none p47 fun (k55
  k56 : Nat) => ∀ (w57 : World) (R58 : List Own), Ctx W w57 (R32 ++ R58) I33 → ∃ (p59 : Option Addr), ∃ (k60 : Nat), ∃ (k61 : Nat), w57.cell? (Addr.mk k55 (k56 + n31.toNat * 3 + 1) none) =
  some (Value.slice p59 k60 k61) ∧ ∀ (w62 : World) (R63 : List Own), Ctx W w62 (R32 ++ R63) I33 → Calls Tryz.prog F.slices_Clone_api_Value_api_Value #[Value.slice p59 k60 k61] w62 fun (e64 :
  Ending) (w65 : World) => ∃ (p66 : Option Addr), ∃ (k67 : Nat), ∃ (k68 : Nat), e64 = Ending.returned (Value.slice p66 k67 k68) ∧ ∃ (R69 : List Own), ∃ (Φ70 : PW), Stable Φ70 ∧ Ctx W w65 (R69
  ++ R63) Φ70 ∧ (∀ (w71 : World) (R72 : List Own), Ctx W w71 (R69 ++ R72) Φ70 → Ctx W w71 (R35 ++ R72) Φ36) ∧ (0 ≤ n31 ∧ n31 < (↑k40 : Int)) ∧ ptrK none p39 fun (k73 k74 : Nat) => ∀ (w75 :
  World) (R76 : List Own), Ctx W w75 (R69 ++ R76) Φ70 → CanWrite w75 k73 (k74 + n31.toNat * 3 + 1) 1 ∧ ∀ (w77 : World), w77 = w75.setCell (Addr.mk k73 (k74 + n31.toNat * 3 + 1) none)
  (Value.slice p66 k67 k68) → ∃ (R78 : List Own), ∃ (Φ79 : PW), Stable Φ79 ∧ Ctx W w77 (R78 ++ R76) Φ79 ∧ (∀ (w80 : World) (R81 : List Own), Ctx W w80 (R78 ++ R81) Φ79 → Ctx W w80 (R35 ++
  R81) Φ36) ∧ I64 (n31 + 1) ∧ ∃ (R82 : List Own), ∃ (Φ83 : PW), ∃ (k84 : Nat), Stable Φ83 ∧ (∀ (w85 : World) (R86 : List Own), Ctx W w85 (R78 ++ R86) Φ79 → Ctx W w85 (R82 ++ R86) Φ83) ∧ I25
  (n31 + 1) R82 Φ83 k84 ∧ k84 < k34) (∀ (w87 : World) (R88 : List Own), Ctx W w87 (R32 ++ R88) I33 → ∃ (n89 : Int), ∃ (n90 : Int), ∃ (n91 : Int), ∃ (n92 : Int), ∃ (n93 : Int), ∃ (p94 : Option
  Addr), ∃ (k95 : Nat), ∃ (k96 : Nat), RowAt w87 k0 0 [Value.int IntKind.i64 n89, Value.int IntKind.i64 n90, Value.int IntKind.i64 n91, Value.int IntKind.i64 n92, Value.int IntKind.i64 n93,
  Value.slice p94 k95 k96] ∧ ∀ (w97 : World) (R98 : List Own), Ctx W w97 (R32 ++ R98) I33 → J (Value.agg #[Value.int IntKind.i64 n89, Value.int IntKind.i64 n90, Value.int IntKind.i64 n91,
  Value.int IntKind.i64 n92, Value.int IntKind.i64 n93, Value.slice p94 k95 k96]) w97)

theorem Ochannel_clone_run (m0 : Int) (m1 : Int) (m2 : Int) (m3 : Int) (m4 : Int) (m5P : Option Addr) (m5N m5C : Nat) {W w : World} {R : List Own} {Φ : PW} [Stable Φ] {J : Value → World → Prop} (c : Ctx W w R Φ) (h : Ochannel_clone m0 m1 m2 m3 m4 m5P m5N m5C W R Φ J) : Calls Tryz.prog F.channel_clone #[.agg #[.int .i64 m0, .int .i64 m1, .int .i64 m2, .int .i64 m3, .int .i64 m4, .slice m5P m5N m5C]] w fun e w' => ∃ v, e = .returned v ∧ J v w' :=
  vcFS_sound (H := { keep := some [1, 2, 3, 10, 11, 12], track := [2], stages := [(5, [.late [8] [0, 2, 3, 5, 1, 4, 6, 7, 8] [(9, [10, 11]), (12, [])]])], loops := [(3, [(11, .one (.int .i64))], [])] }) (by rw [show vcFS Tryz.prog W { keep := some [1, 2, 3, 10, 11, 12], track := [2], stages := [(5, [.late [8] [0, 2, 3, 5, 1, 4, 6, 7, 8] [(9, [10, 11]), (12, [])]])], loops := [(3, [(11, .one (.int .i64))], [])] } F.channel_clone #[.agg #[.int .i64 m0, .int .i64 m1, .int .i64 m2, .int .i64 m3, .int .i64 m4, .slice m5P m5N m5C]] R Φ J = Ochannel_clone m0 m1 m2 m3 m4 m5P m5N m5C W R Φ J by kernel_rfl]; exact h) c

def Ochannel_Channel_Send (cB cO : Nat) (m0 : Int) (m1 : Int) (m2 : Int) (m3 : Int) (m4 : Int) (m5P : Option Addr) (m5N m5C : Nat) (W : World) (R : List Own) (Φ : PW) (J : Value → World → Prop) : Prop :=
  ∀ (b : Nat) (w0 : World) (R1 : List Own), Ctx W w0 (R ++ R1) Φ → Calls Tryz.prog F.channel_Right #[Value.agg #[Value.int IntKind.i64 m0, Value.int IntKind.i64 m1, Value.int IntKind.i64 m2,
  Value.int IntKind.i64 m3, Value.int IntKind.i64 m4, Value.slice m5P m5N m5C]] w0 fun (e2 : Ending) (w3 : World) => ∃ (c4 : Bool), e2 = Ending.returned (Value.bool c4) ∧ ∃ (R5 : List Own), ∃
  (Φ6 : PW), Stable Φ6 ∧ Ctx W w3 (R5 ++ R1) Φ6 ∧ Br (!c4) (∀ (w7 : World) (R8 : List Own), Ctx W w7 (R5 ++ R8) Φ6 → J (Value.int IntKind.i64 1) w7) (∀ (w9 : World) (R10 : List Own), Ctx W w9
  (R5 ++ R10) Φ6 → ∃ (n11 : Int), w9.cell? (Addr.mk cB (cO + 25) none) = some (Value.int IntKind.i64 n11) ∧ Br (decide (n11 = 4)) (∀ (w12 : World) (R13 : List Own), Ctx W w12 (R5 ++ R13) Φ6 →
  J (Value.int IntKind.i64 27) w12) (∃ (R14 : List Own), ∃ (Φ15 : PW), Stable Φ15 ∧ (∀ (w16 : World) (R17 : List Own), Ctx W w16 (R5 ++ R17) Φ6 → Ctx W w16 (R14 ++ R17) Φ15) ∧ ∃ (n18 : Int),
  (∀ (w19 : World) (R20 : List Own), Ctx W w19 (R14 ++ R20) Φ15 → ∃ (n21 : Int), w19.cell? (Addr.mk cB (cO + 24) none) = some (Value.int IntKind.i64 n21) ∧ Value.int IntKind.i64 n21 =
  Value.int IntKind.i64 n18) ∧ ∃ (n22 : Int), (∀ (w23 : World) (R24 : List Own), Ctx W w23 (R14 ++ R24) Φ15 → ∃ (n25 : Int), w23.cell? (Addr.mk cB (cO + 25) none) = some (Value.int
  IntKind.i64 n25) ∧ Value.int IntKind.i64 n25 = Value.int IntKind.i64 n22) ∧ I64 (n18 + n22) ∧ ((4 : Int) = 0 → False) ∧ ∀ (w26 : World) (R27 : List Own), Ctx W w26 (R5 ++ R27) Φ6 → Calls
  Tryz.prog F.channel_clone #[Value.agg #[Value.int IntKind.i64 m0, Value.int IntKind.i64 m1, Value.int IntKind.i64 m2, Value.int IntKind.i64 m3, Value.int IntKind.i64 m4, Value.slice m5P m5N
  m5C]] w26 fun (e28 : Ending) (w29 : World) => ∃ (n30 : Int), ∃ (n31 : Int), ∃ (n32 : Int), ∃ (n33 : Int), ∃ (n34 : Int), ∃ (p35 : Option Addr), ∃ (k36 : Nat), ∃ (k37 : Nat), e28 =
  Ending.returned (Value.agg #[Value.int IntKind.i64 n30, Value.int IntKind.i64 n31, Value.int IntKind.i64 n32, Value.int IntKind.i64 n33, Value.int IntKind.i64 n34, Value.slice p35 k36 k37])
  ∧ ∃ (R38 : List Own), ∃ (Φ39 : PW), Stable Φ39 ∧ Ctx W w29 (R38 ++ R27) Φ39 ∧ (∀ (w40 : World) (R41 : List Own), Ctx W w40 (R38 ++ R41) Φ39 → Ctx W w40 (R14 ++ R41) Φ15) ∧ (0 ≤ (n18 +
  n22).tmod 4 ∧ (n18 + n22).tmod (4 : Int) < 4) ∧ ∀ (w42 : World) (R43 : List Own), Ctx W w42 (R38 ++ R43) Φ39 → CanWrite w42 cB (cO + ((n18 + n22).tmod 4).toNat * 6) 6 ∧ ∀ (w44 : World), w44
  = w42.setCells cB (cO + ((n18 + n22).tmod 4).toNat * 6) [Value.int IntKind.i64 n30, Value.int IntKind.i64 n31, Value.int IntKind.i64 n32, Value.int IntKind.i64 n33, Value.int IntKind.i64
  n34, Value.slice p35 k36 k37] → ∃ (R45 : List Own), ∃ (Φ46 : PW), Stable Φ46 ∧ Ctx W w44 (R45 ++ R43) Φ46 ∧ (∀ (w47 : World) (R48 : List Own), Ctx W w47 (R45 ++ R48) Φ46 → Ctx W w47 (R14 ++
  R48) Φ15) ∧ ∀ (w49 : World) (R50 : List Own), Ctx W w49 (R45 ++ R50) Φ46 → ∃ (n51 : Int), w49.cell? (Addr.mk cB (cO + 25) none) = some (Value.int IntKind.i64 n51) ∧ I64 (n51 + 1) ∧ ∀ (w52 :
  World) (R53 : List Own), Ctx W w52 (R45 ++ R53) Φ46 → CanWrite w52 cB (cO + 25) 1 ∧ ∀ (w54 : World), w54 = w52.setCell (Addr.mk cB (cO + 25) none) (Value.int IntKind.i64 (n51 + 1)) → ∃ (R55
  : List Own), ∃ (Φ56 : PW), Stable Φ56 ∧ Ctx W w54 (R55 ++ R53) Φ56 ∧ ∀ (w57 : World) (R58 : List Own), Ctx W w57 (R55 ++ R58) Φ56 → ∃ (n59 : Int), w57.cell? (Addr.mk cB (cO + 26) none) =
  some (Value.int IntKind.i64 n59) ∧ I64 (n59 + 1) ∧ ∀ (w60 : World) (R61 : List Own), Ctx W w60 (R55 ++ R61) Φ56 → CanWrite w60 cB (cO + 26) 1 ∧ ∀ (w62 : World), w62 = w60.setCell (Addr.mk
  cB (cO + 26) none) (Value.int IntKind.i64 (n59 + 1)) → ∃ (R63 : List Own), ∃ (Φ64 : PW), Stable Φ64 ∧ Ctx W w62 (R63 ++ R61) Φ64 ∧ ∀ (w65 : World) (R66 : List Own), Ctx W w65 (R63 ++ R66)
  Φ64 → J (Value.int IntKind.i64 0) w65))

theorem Ochannel_Channel_Send_run (cB cO : Nat) (m0 : Int) (m1 : Int) (m2 : Int) (m3 : Int) (m4 : Int) (m5P : Option Addr) (m5N m5C : Nat) {W w : World} {R : List Own} {Φ : PW} [Stable Φ] {J : Value → World → Prop} (c : Ctx W w R Φ) (h : Ochannel_Channel_Send cB cO m0 m1 m2 m3 m4 m5P m5N m5C W R Φ J) : Calls Tryz.prog F.channel_Channel_Send #[.pointer (some ⟨cB, cO, none⟩), .agg #[.int .i64 m0, .int .i64 m1, .int .i64 m2, .int .i64 m3, .int .i64 m4, .slice m5P m5N m5C]] w fun e w' => ∃ v, e = .returned v ∧ J v w' :=
  vcFS_sound (H := { keep := some [0, 3, 4, 7, 12], track := [3], stages := [(5, [.late [11] [0, 1, 5, 11, 2, 6, 13, 3, 7, 14, 4, 8, 9, 10] [(12, [15]), (16, [])]])] }) (by rw [show vcFS Tryz.prog W { keep := some [0, 3, 4, 7, 12], track := [3], stages := [(5, [.late [11] [0, 1, 5, 11, 2, 6, 13, 3, 7, 14, 4, 8, 9, 10] [(12, [15]), (16, [])]])] } F.channel_Channel_Send #[.pointer (some ⟨cB, cO, none⟩), .agg #[.int .i64 m0, .int .i64 m1, .int .i64 m2, .int .i64 m3, .int .i64 m4, .slice m5P m5N m5C]] R Φ J = Ochannel_Channel_Send cB cO m0 m1 m2 m3 m4 m5P m5N m5C W R Φ J by kernel_rfl]; exact h) c

def Ochannel_Channel_Take (cB cO : Nat) (W : World) (R : List Own) (Φ : PW) (J : Value → World → Prop) : Prop :=
  ∀ (b : Nat) (w0 : World) (R1 : List Own), Ctx W w0 (R ++ R1) Φ → Calls Tryz.prog F.channel_Channel_Head #[Value.pointer (some (Addr.mk cB cO none))] w0 fun (e2 : Ending) (w3 : World) => ∃
  (n4 : Int), ∃ (n5 : Int), ∃ (n6 : Int), ∃ (n7 : Int), ∃ (n8 : Int), ∃ (p9 : Option Addr), ∃ (k10 : Nat), ∃ (k11 : Nat), ∃ (c12 : Bool), e2 = Ending.returned (Value.tuple #[Value.agg
  #[Value.int IntKind.i64 n4, Value.int IntKind.i64 n5, Value.int IntKind.i64 n6, Value.int IntKind.i64 n7, Value.int IntKind.i64 n8, Value.slice p9 k10 k11], Value.bool c12]) ∧ ∃ (R13 : List
  Own), ∃ (Φ14 : PW), Stable Φ14 ∧ Ctx W w3 (R13 ++ R1) Φ14 ∧ ∀ (b : Nat), Br (!c12) (∀ (w15 : World) (R16 : List Own), Ctx W w15 (R13 ++ R16) Φ14 → J (Value.tuple #[Value.agg #[Value.int
  IntKind.i64 n4, Value.int IntKind.i64 n5, Value.int IntKind.i64 n6, Value.int IntKind.i64 n7, Value.int IntKind.i64 n8, Value.slice p9 k10 k11], Value.int IntKind.i64 4]) w15) (∃ (R17 :
  List Own), ∃ (Φ18 : PW), Stable Φ18 ∧ (∀ (w19 : World) (R20 : List Own), Ctx W w19 (R13 ++ R20) Φ14 → Ctx W w19 (R17 ++ R20) Φ18) ∧ ∀ (w21 : World) (R22 : List Own), Ctx W w21 (R13 ++ R22)
  Φ14 → ∃ (n23 : Int), w21.cell? (Addr.mk cB (cO + 24) none) = some (Value.int IntKind.i64 n23) ∧ (0 ≤ n23 ∧ n23 < 4) ∧ ∀ (w24 : World) (R25 : List Own), Ctx W w24 (R13 ++ R25) Φ14 → CanWrite
  w24 cB (cO + n23.toNat * 6) 6 ∧ ∀ (w26 : World), w26 = w24.setCells cB (cO + n23.toNat * 6) [Value.int IntKind.i64 0, Value.int IntKind.i64 0, Value.int IntKind.i64 0, Value.int IntKind.i64
  0, Value.int IntKind.i64 0, Value.slice none 0 0] → ∃ (R27 : List Own), ∃ (Φ28 : PW), Stable Φ28 ∧ Ctx W w26 (R27 ++ R25) Φ28 ∧ (∀ (w29 : World) (R30 : List Own), Ctx W w29 (R27 ++ R30) Φ28
  → Ctx W w29 (R17 ++ R30) Φ18) ∧ ∀ (w31 : World) (R32 : List Own), Ctx W w31 (R27 ++ R32) Φ28 → ∃ (n33 : Int), w31.cell? (Addr.mk cB (cO + 24) none) = some (Value.int IntKind.i64 n33) ∧ I64
  (n33 + 1) ∧ ((4 : Int) = 0 → False) ∧ ∀ (w34 : World) (R35 : List Own), Ctx W w34 (R27 ++ R35) Φ28 → CanWrite w34 cB (cO + 24) 1 ∧ ∀ (w36 : World), w36 = w34.setCell (Addr.mk cB (cO + 24)
  none) (Value.int IntKind.i64 ((n33 + 1).tmod 4)) → ∃ (R37 : List Own), ∃ (Φ38 : PW), Stable Φ38 ∧ Ctx W w36 (R37 ++ R35) Φ38 ∧ ∀ (w39 : World) (R40 : List Own), Ctx W w39 (R37 ++ R40) Φ38 →
  ∃ (n41 : Int), w39.cell? (Addr.mk cB (cO + 25) none) = some (Value.int IntKind.i64 n41) ∧ I64 (n41 - 1) ∧ ∀ (w42 : World) (R43 : List Own), Ctx W w42 (R37 ++ R43) Φ38 → CanWrite w42 cB (cO
  + 25) 1 ∧ ∀ (w44 : World), w44 = w42.setCell (Addr.mk cB (cO + 25) none) (Value.int IntKind.i64 (n41 - 1)) → ∃ (R45 : List Own), ∃ (Φ46 : PW), Stable Φ46 ∧ Ctx W w44 (R45 ++ R43) Φ46 ∧ ∀
  (w47 : World) (R48 : List Own), Ctx W w47 (R45 ++ R48) Φ46 → J (Value.tuple #[Value.agg #[Value.int IntKind.i64 n4, Value.int IntKind.i64 n5, Value.int IntKind.i64 n6, Value.int IntKind.i64
  n7, Value.int IntKind.i64 n8, Value.slice p9 k10 k11], Value.int IntKind.i64 0]) w47)

theorem Ochannel_Channel_Take_run (cB cO : Nat) {W w : World} {R : List Own} {Φ : PW} [Stable Φ] {J : Value → World → Prop} (c : Ctx W w R Φ) (h : Ochannel_Channel_Take cB cO W R Φ J) : Calls Tryz.prog F.channel_Channel_Take #[.pointer (some ⟨cB, cO, none⟩)] w fun e w' => ∃ v, e = .returned v ∧ J v w' :=
  vcFS_sound (H := { keep := some [0, 2, 3, 4, 5, 12], track := [2, 4], stages := [(4, [.late [0, 1, 5, 2, 3, 4, 8] [0, 1, 5, 2, 6, 3, 7, 4, 8] [(9, [])]])] }) (by rw [show vcFS Tryz.prog W { keep := some [0, 2, 3, 4, 5, 12], track := [2, 4], stages := [(4, [.late [0, 1, 5, 2, 3, 4, 8] [0, 1, 5, 2, 6, 3, 7, 4, 8] [(9, [])]])] } F.channel_Channel_Take #[.pointer (some ⟨cB, cO, none⟩)] R Φ J = Ochannel_Channel_Take cB cO W R Φ J by kernel_rfl]; exact h) c

end Go.Proofs.YtfpgbejdlikpgaaGreatDoor
end

/-
  channel.clone, walked. (Out of r36Vc, over the delta family.)
-/
section
set_option linter.unusedVariables false
set_option linter.unusedSimpArgs false
namespace Go.Proofs.YtfpgbejdlikpgaaGreatDoor
open Go.Vc

theorem vals_any {M M' : List Nat} {w w' : World} {cs : List Value} {l : List ValD} (h : Elems M w cs l) : Elems M' w' cs l := ⟨h.1, fun j hj => h.2 j hj⟩

/-! ### clone -/
/-- a copy of deltas: the cells, and the rows that are owned with it -/
structure Fresh (cs : List Value) (rows : List Own) (l : List DeltaD) : Prop where
  len : cs.length = l.length * 3
  go : ∀ j, (hj : j < l.length) → ∃ q c vc, (cs.drop (j * 3)).take 3 = l[j].cells q c ∧ l[j].row.length ≤ c ∧ c ≤ maxLen ∧ I64 l[j].time ∧ I64 l[j].n ∧ Own.buf q l[j].row.length c vc 83 3 ∈ rows ∧ ∀ M w, Elems M w vc l[j].row

theorem Fresh.sl {W w : World} {S : List Own} {Φ : PW} [Stable Φ] {p : Option Addr} {n cap : Nat} {cs : List Value} {rows : List Own} {l : List DeltaD} (hf : Fresh cs rows l) (c : Ctx W w (.buf p n cap cs 62 3 :: rows ++ S) Φ) :
    Ctx W w S Φ ∧ Sl (dom S) w p l ∧ n = l.length ∧ n ≤ cap ∧ cap ≤ maxLen := by
  have c1 : Ctx W w (rows ++ (.buf p n cap cs 62 3 :: S)) Φ := c.perm (by rw [List.cons_append]; exact List.perm_middle.symm)
  have c2 : Ctx W w (.buf p n cap cs 62 3 :: S) Φ := c1.right
  refine Ctx.freeze (α := DeltaD) c2 ⟨hf.len, fun j hj => ?_⟩
  obtain ⟨q, c, vc, h1, h2, h3, h4, h5, h6, h7⟩ := hf.go j hj
  rw [show (Gv.ty DeltaD).size = 3 from rfl, h1]
  exact rep_delta h2 h3 h4 h5 (c1.letGo (α := ValD) h6 (h7 _ _))

/-- the function hands back a copy of deltas, inside mk -/
structure GivesCopy (Φ : PW) (P : Program) (f : FuncId) (args : Array Value) (l : List DeltaD) (mk : Value → Value) : Prop where
  go : ∀ (W w : World) (S : List Own), Ctx W w S Φ → Calls P f args w fun e w' => ∃ p cap cs rows, e = .returned (mk (.slice p l.length cap)) ∧ Fresh cs rows l ∧ Ctx W w' (.buf p l.length cap cs 62 3 :: rows ++ S) Φ

theorem gives_copy {Φ : PW} [Stable Φ] {P : Program} {f : FuncId} {args : Array Value} {l : List DeltaD} {mk : Value → Value} {B : World → List Own → PW → (Value → World → Prop) → Prop}
    (run : ∀ {W w : World} {R : List Own} {Φ : PW} [Stable Φ] {J : Value → World → Prop}, Ctx W w R Φ → B W R Φ J → Calls P f args w fun e w' => ∃ v, e = .returned v ∧ J v w')
    (h : ∀ (W : World) (R : List Own), B W R Φ fun u w' => ∃ p cap cs rows, u = mk (.slice p l.length cap) ∧ Fresh cs rows l ∧ Ctx W w' (.buf p l.length cap cs 62 3 :: rows ++ R) Φ) : GivesCopy Φ P f args l mk :=
  ⟨fun W w S c => calls_of (run c (h W S)) fun u w' ⟨p, cap, cs, rows, h1, h2⟩ => ⟨p, cap, cs, rows, by rw [h1], h2⟩⟩

theorem GivesCopy.use {Φ : PW} {P : Program} {f : FuncId} {args : Array Value} {l : List DeltaD} {mk : Value → Value} (h : GivesCopy Φ P f args l mk) {W w : World} {S : List Own} (c : Ctx W w S Φ) {K : Ending → World → Prop}
    (hk : ∀ p cap cs rows w', Fresh cs rows l → Ctx W w' (.buf p l.length cap cs 62 3 :: rows ++ S) Φ → K (.returned (mk (.slice p l.length cap))) w') : Calls P f args w K :=
  (h.go W w S c).mono fun e w' ⟨p, cap, cs, rows, he, hf, c'⟩ => by subst he; exact hk p cap cs rows w' hf c'

theorem GivesCopy.gsl {Φ : PW} [Stable Φ] {P : Program} {f : FuncId} {args : Array Value} {l : List DeltaD} {mk : Value → Value} (h : GivesCopy Φ P f args l mk) : GivesSl Φ P f args l mk :=
  ⟨fun W w S c => (h.go W w S c).mono fun e w' ⟨p, cap, cs, rows, he, hf, c'⟩ => by
    obtain ⟨c2, h1, _, h2, h3⟩ := hf.sl c'
    exact ⟨p, cap, he, h2, h3, c2.add h1⟩⟩

theorem GivesCopy.there {Φ : PW} {P : Program} {f : FuncId} {args : Array Value} {l : List DeltaD} {mk : Value → Value} {p : Option Addr} {n : Nat} (hΦ : ∀ M w, Φ M w → There p n) (h : There p n → GivesCopy Φ P f args l mk) : GivesCopy Φ P f args l mk :=
  ⟨fun W w S c => (h (hΦ _ _ c.phi)).go W w S c⟩

theorem take3 {cs : List Value} {o : Nat} {a b c : Value} : (cs.drop o).take 3 = [a, b, c] ↔ (cs[o]? = some a ∧ cs[o + 1]? = some b ∧ cs[o + 2]? = some c) := by
  constructor
  · intro h
    have key : ∀ i, i < 3 → cs[o + i]? = [a, b, c][i]? := by
      intro i hi
      rw [← h, List.getElem?_take_of_lt hi, List.getElem?_drop]
    exact ⟨key 0 (by omega), key 1 (by omega), key 2 (by omega)⟩
  · rintro ⟨h1, h2, h3⟩
    have hlt : o + 2 < cs.length := (List.getElem?_eq_some_iff.1 h3).1
    apply List.ext_getElem?
    intro i
    match i with
    | 0 => rw [List.getElem?_take_of_lt (by omega), List.getElem?_drop]; exact h1
    | 1 => rw [List.getElem?_take_of_lt (by omega), List.getElem?_drop]; exact h2
    | 2 => rw [List.getElem?_take_of_lt (by omega), List.getElem?_drop]; exact h3
    | i + 3 => rw [List.getElem?_eq_none (by simp; omega), List.getElem?_eq_none (by simp)]

/-- so far, i rows are copied -/
structure Half (cs news : List Value) (rows : List Own) (l : List DeltaD) (i : Nat) : Prop where
  len : cs.length = l.length * 3
  done : ∀ j, (hj : j < l.length) → j < i → ∃ q c vc, (cs.drop (j * 3)).take 3 = l[j].cells q c ∧ l[j].row.length ≤ c ∧ c ≤ maxLen ∧ I64 l[j].time ∧ I64 l[j].n ∧ Own.buf q l[j].row.length c vc 83 3 ∈ rows ∧ ∀ M w, Elems M w vc l[j].row
  todo : ∀ j, j < l.length → i ≤ j → (cs.drop (j * 3)).take 3 = (news.drop (j * 3)).take 3

theorem Half.step {cs news : List Value} {rows : List Own} {l : List DeltaD} {i : Nat} (h : Half cs news rows l i) (hi : i < l.length) {q0 q : Option Addr} {c0 c : Nat} {vc : List Value} (hn : (news.drop (i * 3)).take 3 = l[i].cells q0 c0)
    (h1 : l[i].row.length ≤ c) (h2 : c ≤ maxLen) (h3 : I64 l[i].time) (h4 : I64 l[i].n) (h5 : ∀ M w, Elems M w vc l[i].row) :
    Half (setL cs (i * 3 + 1) [.slice q l[i].row.length c]) news (.buf q l[i].row.length c vc 83 3 :: rows) l (i + 1) := by
  have hlen := h.len
  have hset : setL cs (i * 3 + 1) [.slice q l[i].row.length c] = cs.set (i * 3 + 1) (.slice q l[i].row.length c) := rfl
  have hoth : ∀ j, j < l.length → j ≠ i → ((cs.set (i * 3 + 1) (.slice q l[i].row.length c)).drop (j * 3)).take 3 = (cs.drop (j * 3)).take 3 := by
    intro j hj hne
    apply List.ext_getElem?
    intro k
    rcases Nat.lt_or_ge k 3 with hk | hk
    · rw [List.getElem?_take_of_lt hk, List.getElem?_drop, List.getElem?_take_of_lt hk, List.getElem?_drop, List.getElem?_set_ne (by omega)]
    · rw [List.getElem?_eq_none (by simp; omega), List.getElem?_eq_none (by simp; omega)]
  rw [hset]
  refine ⟨by simp [hlen], fun j hj hji => ?_, fun j hj hji => ?_⟩
  · rcases Nat.lt_or_ge j i with hlt | hge
    · obtain ⟨q', c', vc', g1, g2, g3, g4, g5, g6, g7⟩ := h.done j hj hlt
      exact ⟨q', c', vc', by rw [hoth j hj (by omega), g1], g2, g3, g4, g5, List.mem_cons_of_mem _ g6, g7⟩
    · have : j = i := by omega
      subst this
      refine ⟨q, c, vc, ?_, h1, h2, h3, h4, List.mem_cons_self, h5⟩
      obtain ⟨e1, e2, e3⟩ := take3.1 ((h.todo j hj (Nat.le_refl _)).trans hn)
      have hlt : j * 3 + 2 < cs.length := (List.getElem?_eq_some_iff.1 e3).1
      exact take3.2 ⟨by rw [List.getElem?_set_ne (by omega)]; exact e1, by rw [List.getElem?_set_self (by omega)], by rw [List.getElem?_set_ne (by omega)]; exact e3⟩
  · rw [hoth j hj (by omega)]
    exact h.todo j hj (by omega)

theorem elems_delta {M : List Nat} {w : World} {cs : List Value} {l : List DeltaD} (h : Elems M w cs l) {j : Nat} (hj : j < l.length) : ∃ q c, (cs.drop (j * 3)).take 3 = l[j].cells q c ∧ l[j].row.length ≤ c ∧ c ≤ maxLen ∧ I64 l[j].time ∧ I64 l[j].n ∧ Sl M w q l[j].row := by
  have := h.2 j hj
  rw [show (Gv.ty DeltaD).size = 3 from rfl] at this
  exact delta_cells this

theorem elems_row {M : List Nat} {w : World} {cs : List Value} {l : List DeltaD} (h : Elems M w cs l) {j : Nat} (hj : j < l.length) {q : Option Addr} {c : Nat} (e : (cs.drop (j * 3)).take 3 = l[j].cells q c) : Sl M w q l[j].row := by
  have := h.2 j hj
  rw [show (Gv.ty DeltaD).size = 3 from rfl, e] at this
  exact delta_row this

set_option maxHeartbeats 1000000 in
theorem clone_copy {Φ : PW} [Stable Φ] (p : Option Addr) (cap : Nat) (m : MsgD) (hΦ : ∀ M w, Φ M w → Sl M w p m.deltas) (hlen : m.deltas.length < 100000000) (hrows : ∀ x ∈ m.deltas, x.row.length < 100000000) :
    GivesCopy Φ Tryz.prog F.channel_clone #[m.v p cap] m.deltas (fun s => .agg #[.int .i64 m.kind, .int .i64 m.node, .int .i64 m.inp, .int .i64 m.bucket, .int .i64 m.n, s]) := by
  refine gives_copy (Ochannel_clone_run m.kind m.node m.inp m.bucket m.n p m.deltas.length cap) fun W R => ?_
  intro k0 _ w G cx
  refine ⟨p, m.deltas.length, cap, cx.get 0 rfl rfl, fun w G cx => ?_⟩
  refine (CloneD_in p cap m.deltas hΦ hlen).use cx fun p1 cap1 news w cx => ⟨p1, m.deltas.length, cap1, rfl, ?_⟩
  have hnews : ∀ j, (hj : j < m.deltas.length) → ∃ q c, (news.drop (j * 3)).take 3 = m.deltas[j].cells q c ∧ m.deltas[j].row.length ≤ c ∧ c ≤ maxLen ∧ I64 m.deltas[j].time ∧ I64 m.deltas[j].n := fun j hj => by
    obtain ⟨q, c, h1, h2, h3, h4, h5, _⟩ := elems_delta cx.phi.2 hj
    exact ⟨q, c, h1, h2, h3, h4, h5⟩
  have hnl : news.length = m.deltas.length * 3 := cx.phi.2.1
  refine ⟨.blk k0 (m.cells p cap) 32 :: .buf p1 m.deltas.length cap1 news 62 3 :: R, fun M w => Φ M w ∧ Elems M w news m.deltas, inferInstance, cx.swap, fun w G cx => ⟨cx.can 0 rfl (by simp), fun w' hw' => ?_⟩⟩
  refine ⟨.blk k0 (m.cells p1 cap1) 32 :: .buf p1 m.deltas.length cap1 news 62 3 :: R, fun M w => Φ M w ∧ Elems M w news m.deltas, inferInstance, cx.put 0 hw' rfl, fun w G cx => ⟨p1, m.deltas.length, cap1, cx.get 0 rfl rfl, ?_⟩⟩
  refine exI_mk (fun n R' Φ' k => ∃ (i : Nat) (cs : List Value) (rows : List Own), n = i ∧ i ≤ m.deltas.length ∧ R' = .blk k0 (m.cells p1 cap1) 32 :: .buf p1 m.deltas.length cap1 cs 62 3 :: rows ++ R ∧ Φ' = (fun M w => Φ M w ∧ Elems M w news m.deltas) ∧ k = m.deltas.length - i ∧ Half cs news rows m.deltas i)
    ⟨⟨_, _, _, inferInstance, fun w F c => c, 0, news, [], rfl, Nat.zero_le _, rfl, rfl, rfl, hnl, fun j _ h => by omega, fun j _ _ => rfl⟩, ?_⟩
  rintro n R1 Φ1 k _ ⟨i, cs, rows, rfl, hi, rfl, rfl, rfl, hh⟩
  refine Br.intro (fun hlt => ?_) (fun hge => fun w G cx => ⟨m.kind, m.node, m.inp, m.bucket, m.n, p1, m.deltas.length, cap1, cx.row0 0 rfl, fun w G cx => ⟨p1, cap1, cs, rows, rfl, ?_, ?_⟩⟩)
  · have hlt : i < m.deltas.length := by simpa using hlt
    obtain ⟨q0, c0, hq0, hq1, hq2, hq3, hq4⟩ := hnews i hlt
    have hcs := take3.1 ((hh.todo i hlt (Nat.le_refl _)).trans hq0)
    have h0 : 0 < cs.length := by rw [hh.len]; omega
    refine ⟨[.blk k0 (m.cells p1 cap1) 32], fun _ _ => True, inferInstance, fun w G cx => (cx.weak fun _ _ _ => trivial).sub (List.Sublist.cons_cons _ (List.sublist_append_right _ _)),
      p1, m.deltas.length, cap1, fun w G cx => ⟨p1, m.deltas.length, cap1, cx.get 0 rfl rfl, rfl⟩, p1, m.deltas.length, cap1, fun w G cx => ⟨p1, m.deltas.length, cap1, cx.get 0 rfl rfl, rfl⟩, by omega, ?_⟩
    by_cases hp1 : ∃ b1, p1 = some ⟨b1, 0, none⟩
    case neg =>
      exfalso
      obtain ⟨b1, hb1, _⟩ := cx.bufCell 1 rfl (by rw [hnl]; omega)
      exact hp1 ⟨b1, hb1⟩
    obtain ⟨b1, hb1⟩ := hp1
    refine ptrK_intro b1 0 hb1 fun w G cx => ⟨q0, m.deltas[i].row.length, c0, ?_, fun w G cx => ?_⟩
    · obtain ⟨b', hb', _, hc⟩ := cx.bufCell 1 rfl h0
      rw [hb1] at hb'
      cases hb'
      rw [Int.toNat_natCast, Nat.zero_add]
      exact (hc _ _ hcs.2.1).1
    refine (CloneV_in (Φ := fun M w => Φ M w ∧ Elems M w news m.deltas) q0 c0 m.deltas[i].row (fun M w h => elems_row h.2 hlt hq0) (hrows _ (List.getElem_mem _))).use cx fun p2 cap2 vc w cx => ⟨p2, m.deltas[i].row.length, cap2, rfl, ?_⟩
    have hvc : ∀ M w, Elems M w vc m.deltas[i].row := fun M w => vals_any cx.phi.2
    obtain ⟨_, hcap1, hcap2⟩ := cx.bufLen 0 rfl
    refine ⟨.blk k0 (m.cells p1 cap1) 32 :: .buf p1 m.deltas.length cap1 cs 62 3 :: (.buf p2 m.deltas[i].row.length cap2 vc 83 3 :: rows) ++ R, fun M w => Φ M w ∧ Elems M w news m.deltas, inferInstance, ?_, ?_, by omega, ptrK_intro b1 0 hb1 fun w G cx => ⟨?_, fun w' hw' => ?_⟩⟩
    · exact (cx.fst).perm (List.perm_middle (l₁ := [Own.blk k0 (m.cells p1 cap1) 32, Own.buf p1 m.deltas.length cap1 cs 62 3])).symm
    · exact fun w G cx => (cx.weak fun _ _ _ => trivial).sub (List.Sublist.cons_cons _ (List.sublist_append_right _ _))
    · rw [Int.toNat_natCast, Nat.zero_add]
      refine cx.bufCan 1 rfl hb1 ?_
      have := (List.getElem?_eq_some_iff.1 hcs.2.1).1
      omega
    · rw [Int.toNat_natCast, Nat.zero_add] at hw'
      have hlt1 := (List.getElem?_eq_some_iff.1 hcs.2.1).1
      have cx' := cx.bufPuts 1 rfl hb1 h0 (o := i * 3 + 1) (vs := [.slice p2 m.deltas[i].row.length cap2]) (by simp only [List.length_singleton]; omega) hw'
      exact ⟨.blk k0 (m.cells p1 cap1) 32 :: .buf p1 m.deltas.length cap1 (setL cs (i * 3 + 1) [.slice p2 m.deltas[i].row.length cap2]) 62 3 :: (.buf p2 m.deltas[i].row.length cap2 vc 83 3 :: rows) ++ R, fun M w => Φ M w ∧ Elems M w news m.deltas, inferInstance, cx',
        fun w G cx => (cx.weak fun _ _ _ => trivial).sub (List.Sublist.cons_cons _ (List.sublist_append_right _ _)), by unfold I64; omega, _, _, m.deltas.length - (i + 1), inferInstance, fun w G cx => cx, ⟨i + 1, _, _, rfl, hlt, rfl, rfl, rfl, hh.step hlt hq0 hcap1 hcap2 hq3 hq4 hvc⟩, by omega⟩
  · have hge : i = m.deltas.length := Nat.le_antisymm hi (by simpa using hge)
    exact ⟨hh.len, fun j hj => hh.done j hj (by omega)⟩
  · exact cx.left.drop1.fst

end Go.Proofs.YtfpgbejdlikpgaaGreatDoor
end

/-
  The walks of the channel's methods.
-/
section
set_option linter.unusedVariables false
set_option linter.unusedSimpArgs false
namespace Go.Proofs.YtfpgbejdlikpgaaGreatDoor
open Go.Vc

def MsgD.Small (m : MsgD) : Prop := m.deltas.length < 100000000 ∧ ∀ x ∈ m.deltas, x.row.length < 100000000

theorem right_small {m : MsgD} (h : rightM m = true) : m.Small := by
  unfold rightM headM at h
  simp only [Bool.and_eq_true, Bool.not_eq_true', Bool.or_eq_false_iff, decide_eq_false_iff_not] at h
  obtain ⟨⟨⟨_, ⟨⟨_, h1⟩, _⟩⟩, _⟩, h2⟩ := h
  refine ⟨by omega, fun x hx => ?_⟩
  rw [List.any_eq_false] at h2
  have := h2 x hx
  simp only [Bool.not_eq_true', Bool.not_eq_false] at this
  unfold rightR at this
  simp only [Bool.and_eq_true, decide_eq_true_eq] at this
  have := this.1
  omega

/-- the cells of a channel: the messages q stand in it, from first on -/
structure ChanC (cs : List Value) (q : List MsgD) (first : Nat) (sent : Nat) : Prop where
  len : cs.length = 27
  lt4 : first < 4
  count : q.length ≤ 4
  c24 : cs[24]? = some (.int .i64 first)
  c25 : cs[25]? = some (.int .i64 q.length)
  c26 : cs[26]? = some (.int .i64 sent)
  small : ∀ m ∈ q, m.Small
  slots : ∀ k, k < 4 → ∃ n1 n2 n3 n4 n5 p n c, (cs.drop (k * 6)).take 6 = [.int .i64 n1, .int .i64 n2, .int .i64 n3, .int .i64 n4, .int .i64 n5, .slice p n c]

def ChanS (cs : List Value) (q : List MsgD) (first : Nat) (M : List Nat) (w : World) : Prop := ∀ k, (hk : k < q.length) → Gv.rep M w ((cs.drop ((first + k) % 4 * 6)).take 6) q[k]

instance chanS_stable (cs : List Value) (q : List MsgD) (first : Nat) : Stable (fun M w => ChanS cs q first M w) := ⟨fun hs h k hk => Gv.stable hs (h k hk)⟩

abbrev chan0 : List Value := [.int .i64 0, .int .i64 0, .int .i64 0, .int .i64 0, .int .i64 0, .slice none 0 0, .int .i64 0, .int .i64 0, .int .i64 0, .int .i64 0, .int .i64 0, .slice none 0 0, .int .i64 0, .int .i64 0, .int .i64 0, .int .i64 0, .int .i64 0, .slice none 0 0,
  .int .i64 0, .int .i64 0, .int .i64 0, .int .i64 0, .int .i64 0, .slice none 0 0, .int .i64 0, .int .i64 0, .int .i64 0]
abbrev msg0 : MsgD := ⟨0, 0, 0, 0, 0, []⟩

theorem chan0_c : ChanC chan0 [] 0 0 := ⟨rfl, by omega, by simp, rfl, rfl, rfl, by simp, fun k hk => by
  have h4 : k = 0 ∨ k = 1 ∨ k = 2 ∨ k = 3 := by omega
  rcases h4 with rfl | rfl | rfl | rfl <;> exact ⟨_, _, _, _, _, _, _, _, rfl⟩⟩
theorem chan0_s (M : List Nat) (w : World) : ChanS chan0 [] 0 M w := fun k hk => by simp at hk

theorem take6 {cs ds : List Value} {o : Nat} (h : ∀ i, i < 6 → cs[o + i]? = ds[o + i]?) : (cs.drop o).take 6 = (ds.drop o).take 6 := by
  apply List.ext_getElem?
  intro i
  rcases Nat.lt_or_ge i 6 with hi | hi
  · rw [List.getElem?_take_of_lt hi, List.getElem?_drop, List.getElem?_take_of_lt hi, List.getElem?_drop, h i hi]
  · rw [List.getElem?_eq_none (by simp; omega), List.getElem?_eq_none (by simp; omega)]

theorem take6_in {cs vs : List Value} {o : Nat} (hv : vs.length = 6) (hl : o + 6 ≤ cs.length) : ((setL cs o vs).drop o).take 6 = vs := by
  apply List.ext_getElem?
  intro i
  rcases Nat.lt_or_ge i 6 with hi | hi
  · rw [List.getElem?_take_of_lt hi, List.getElem?_drop, setL_in _ _ _ _ (by omega) (by omega)]
  · rw [List.getElem?_eq_none (by simp; omega), List.getElem?_eq_none (by omega)]

/-! ### what is taken -/
abbrev taken (cs : List Value) (first count : Nat) : List Value := ((setL cs (first * 6) [.int .i64 0, .int .i64 0, .int .i64 0, .int .i64 0, .int .i64 0, .slice none 0 0]).set 24 (.int .i64 ((first + 1) % 4 : Nat))).set 25 (.int .i64 (count : Nat))

theorem ChanC.take {cs : List Value} {m : MsgD} {q : List MsgD} {first sent : Nat} (h : ChanC cs (m :: q) first sent) : ChanC (taken cs first q.length) q ((first + 1) % 4) sent := by
  have hl := h.len
  have hf := h.lt4
  have hc := h.count
  have hsl : (setL cs (first * 6) [.int .i64 0, .int .i64 0, .int .i64 0, .int .i64 0, .int .i64 0, .slice none 0 0]).length = 27 := by rw [setL_len, hl]
  refine ⟨?_, Nat.mod_lt _ (by omega), ?_, ?_, ?_, ?_, fun m hm => h.small m (List.mem_cons_of_mem _ hm), fun k hk => ?_⟩
  · rw [List.length_set, List.length_set, hsl]
  · simp only [List.length_cons] at hc; omega
  · rw [List.getElem?_set_ne (by omega), List.getElem?_set_self (by omega)]
  · rw [List.getElem?_set_self (by rw [List.length_set]; omega)]
  · rw [List.getElem?_set_ne (by omega), List.getElem?_set_ne (by omega), setL_get _ _ _ _ (by right; simp only [List.length_cons, List.length_nil]; omega), h.c26]
  · by_cases e : k = first
    · subst e
      refine ⟨0, 0, 0, 0, 0, none, 0, 0, ?_⟩
      rw [take6 (ds := setL cs (k * 6) [.int .i64 0, .int .i64 0, .int .i64 0, .int .i64 0, .int .i64 0, .slice none 0 0]) (fun i hi => by rw [List.getElem?_set_ne (by omega), List.getElem?_set_ne (by omega)]), take6_in rfl (by omega)]
    · obtain ⟨n1, n2, n3, n4, n5, p, n, c, he⟩ := h.slots k hk
      refine ⟨n1, n2, n3, n4, n5, p, n, c, ?_⟩
      rw [take6 (ds := cs) (fun i hi => by rw [List.getElem?_set_ne (by omega), List.getElem?_set_ne (by omega), setL_get _ _ _ _ (by simp only [List.length_cons, List.length_nil]; omega)])]
      exact he

theorem ChanS.take {cs : List Value} {m : MsgD} {q : List MsgD} {first : Nat} (hc : q.length < 4) (hf : first < 4) {M : List Nat} {w : World} (h : ChanS cs (m :: q) first M w) : ChanS (taken cs first q.length) q ((first + 1) % 4) M w := by
  intro k hk
  have := h (k + 1) (by simpa using hk)
  rw [List.getElem_cons_succ] at this
  have e : (first + 1) % 4 + k = (first + 1) % 4 + k := rfl
  have hix : ((first + 1) % 4 + k) % 4 = (first + (k + 1)) % 4 := by omega
  rw [hix]
  have hne : (first + (k + 1)) % 4 ≠ first := by omega
  have hlt : (first + (k + 1)) % 4 < 4 := Nat.mod_lt _ (by omega)
  generalize (first + (k + 1)) % 4 = z at *
  rw [take6 (ds := cs)]
  · exact this
  · intro i hi
    rw [List.getElem?_set_ne (by omega), List.getElem?_set_ne (by omega), setL_get _ _ _ _ (by simp only [List.length_cons, List.length_nil]; omega)]

/-! ### what is sent -/
abbrev sentTo (cs : List Value) (first count sent : Nat) (vs : List Value) : List Value := ((setL cs ((first + count) % 4 * 6) vs).set 25 (.int .i64 (count + 1 : Nat))).set 26 (.int .i64 (sent + 1 : Nat))

theorem ChanC.send {cs : List Value} {m : MsgD} {p : Option Addr} {c : Nat} {q : List MsgD} {first sent : Nat} (h : ChanC cs q first sent) (hq : q.length < 4) (hv : (m.cells p c).length = 6) (hm : m.Small) : ChanC (sentTo cs first q.length sent (m.cells p c)) (q ++ [m]) first (sent + 1) := by
  have hl := h.len
  have hf := h.lt4
  have hsl : (setL cs ((first + q.length) % 4 * 6) (m.cells p c)).length = 27 := by rw [setL_len, hl]
  have hlt : (first + q.length) % 4 < 4 := Nat.mod_lt _ (by omega)
  refine ⟨?_, hf, ?_, ?_, ?_, ?_, fun x hx => ?_, fun k hk => ?_⟩
  · rw [List.length_set, List.length_set, hsl]
  · rw [List.length_append, List.length_singleton]; omega
  · rw [List.getElem?_set_ne (by omega), List.getElem?_set_ne (by omega), setL_get _ _ _ _ (by right; omega), h.c24]
  · rw [List.getElem?_set_ne (by omega), List.getElem?_set_self (by omega), List.length_append, List.length_singleton]
  · rw [List.getElem?_set_self (by rw [List.length_set]; omega)]
  · rcases List.mem_append.1 hx with hx | hx
    · exact h.small x hx
    · rw [List.mem_singleton.1 hx]; exact hm
  · unfold sentTo
    by_cases e : k = (first + q.length) % 4
    · subst e
      generalize (first + q.length) % 4 = y at *
      refine ⟨_, _, _, _, _, _, _, _, (?_ : _ = m.cells p c)⟩
      rw [take6 (ds := setL cs (y * 6) (m.cells p c)) (fun i hi => by rw [List.getElem?_set_ne (by omega), List.getElem?_set_ne (by omega)]), take6_in rfl (by omega)]
    · obtain ⟨n1, n2, n3, n4, n5, p, n, c, he⟩ := h.slots k hk
      refine ⟨n1, n2, n3, n4, n5, p, n, c, ?_⟩
      generalize (first + q.length) % 4 = y at *
      rw [take6 (ds := cs) (fun i hi => by rw [List.getElem?_set_ne (by omega), List.getElem?_set_ne (by omega), setL_get _ _ _ _ (by simp only [List.length_cons, List.length_nil]; omega)])]
      exact he

theorem ChanS.send {cs : List Value} {m : MsgD} {q : List MsgD} {first sent : Nat} {p : Option Addr} {c : Nat} (hl : cs.length = 27) (hq : q.length < 4) (hf : first < 4) {M : List Nat} {w : World} (h : ChanS cs q first M w) (hm : Gv.rep M w (m.cells p c) m) : ChanS (sentTo cs first q.length sent (m.cells p c)) (q ++ [m]) first M w := by
  intro k hk
  unfold sentTo
  rw [List.length_append, List.length_singleton] at hk
  have hlt : (first + k) % 4 < 4 := Nat.mod_lt _ (by omega)
  by_cases hkq : k < q.length
  · rw [List.getElem_append_left hkq]
    have := h k hkq
    have hne : (first + k) % 4 ≠ (first + q.length) % 4 := by omega
    have hlt2 : (first + q.length) % 4 < 4 := Nat.mod_lt _ (by omega)
    generalize (first + k) % 4 = z at *
    generalize (first + q.length) % 4 = y at *
    rw [take6 (ds := cs)]
    · exact this
    · intro i hi
      rw [List.getElem?_set_ne (by omega), List.getElem?_set_ne (by omega), setL_get _ _ _ _ (by simp only [List.length_cons, List.length_nil]; omega)]
  · have : k = q.length := by omega
    subst this
    rw [List.getElem_append_right (Nat.le_refl _)]
    simp only [Nat.sub_self, List.getElem_cons_zero]
    generalize (first + q.length) % 4 = y at *
    rw [take6 (ds := setL cs (y * 6) (m.cells p c)), take6_in rfl (by omega)]
    · exact hm
    · intro i hi
      rw [List.getElem?_set_ne (by omega), List.getElem?_set_ne (by omega)]

/-! ### the methods -/
section
variable {W w : World} {S : List Own} {Φ : PW}

theorem New_use [Stable Φ] (c : Ctx W w S Φ) {K : Ending → World → Prop} (hk : ∀ b w', Ctx W w' (.blk b chan0 59 :: S) Φ → K (.returned (.pointer (some ⟨b, 0, none⟩))) w') : Calls Tryz.prog F.channel_New #[] w K :=
  (Bchannel_New_run (J := fun u w' => K (.returned u) w') c fun b w G cx => hk b w (by simpa using cx.left)).mono fun e w' ⟨v, he, hj⟩ => by rw [he]; exact hj

theorem Head_none [Stable Φ] {b : Nat} {cs : List Value} {first sent : Nat} (c : Ctx W w (.blk b cs 59 :: S) Φ) (hc : ChanC cs [] first sent) {K : Ending → World → Prop} (hk : ∀ w', Ctx W w' (.blk b cs 59 :: S) Φ → K (.returned (.tuple #[msg0.v none 0, .bool false])) w') :
    Calls Tryz.prog F.channel_Channel_Head #[.pointer (some ⟨b, 0, none⟩)] w K := by
  refine (Bchannel_Channel_Head_run b 0 (J := fun u w' => K (.returned u) w') c ?_).mono fun e w' ⟨v, he, hj⟩ => by rw [he]; exact hj
  refine fun _ w G cx => ⟨0, cx.left.get 0 rfl (by rw [Nat.zero_add]; exact hc.c25), Br.intro (fun h => fun w G cx => hk w cx.left) (fun h => by simp at h)⟩

theorem Head_some [Stable Φ] {b : Nat} {cs : List Value} {first sent : Nat} {m : MsgD} {q : List MsgD} (c : Ctx W w (.blk b cs 59 :: S) Φ) (hc : ChanC cs (m :: q) first sent) (hS : ∀ M w, Φ M w → ChanS cs (m :: q) first M w) {K : Ending → World → Prop}
    (hk : ∀ p cap ds rows w', Fresh ds rows m.deltas → Ctx W w' (.blk b cs 59 :: (.buf p m.deltas.length cap ds 62 3 :: rows) ++ S) Φ → K (.returned (.tuple #[m.v p cap, .bool true])) w') :
    Calls Tryz.prog F.channel_Channel_Head #[.pointer (some ⟨b, 0, none⟩)] w K := by
  have hf := hc.lt4
  have hl := hc.len
  obtain ⟨p0, c0, he, hle, hcm, hok, _⟩ : ∃ p c, (cs.drop (first * 6)).take 6 = m.cells p c ∧ m.deltas.length ≤ c ∧ c ≤ maxLen ∧ m.Ok ∧ Sl (dom (Own.blk b cs 59 :: S)) w p m.deltas := by
    have := hS _ _ c.phi 0 (by simp)
    rw [Nat.add_zero, Nat.mod_eq_of_lt hf] at this
    exact msg_cells this
  have hsl : ∀ M w, Φ M w → Sl M w p0 m.deltas := fun M w h => by
    have := hS _ _ h 0 (by simp)
    rw [Nat.add_zero, Nat.mod_eq_of_lt hf, he] at this
    exact msg_sl this
  have hsm := hc.small m (by simp)
  refine (Bchannel_Channel_Head_run b 0 (J := fun u w' => K (.returned u) w') c ?_).mono fun e w' ⟨v, he, hj⟩ => by rw [he]; exact hj
  refine fun _ w G cx => ⟨_, cx.left.get 0 rfl (by rw [Nat.zero_add]; exact hc.c25), Br.intro (fun h => by simp at h; omega) (fun h => ?_)⟩
  refine ⟨.blk b cs 59 :: S, Φ, inferInstance, fun w G cx => cx, (first : Int), fun w G cx => ⟨_, cx.get 0 rfl (by rw [Nat.zero_add]; exact hc.c24), rfl⟩, by omega, fun w G cx => ⟨m.kind, m.node, m.inp, m.bucket, m.n, p0, m.deltas.length, c0, cx.row 0 rfl ?_, fun w G cx => ?_⟩⟩
  · rw [Int.toNat_natCast, Nat.zero_add]
    exact rows_of (vs := m.cells p0 c0) he
  · refine (clone_copy p0 c0 m hsl hsm.1 hsm.2).use cx fun p cap ds rows w hfr cx => ⟨_, _, _, _, _, p, _, cap, rfl, .blk b cs 59 :: (.buf p m.deltas.length cap ds 62 3 :: rows) ++ S, Φ, inferInstance, ?_, ?_, ?_, fun w G cx => hk p cap ds rows w hfr cx.left⟩
    · refine cx.perm ?_
      have : (Own.buf p m.deltas.length cap ds 62 3 :: rows ++ (.blk b cs 59 :: (S ++ G))).Perm (.blk b cs 59 :: (Own.buf p m.deltas.length cap ds 62 3 :: rows ++ (S ++ G))) := List.perm_middle
      simpa using this
    · exact fun w G cx => cx.sub (by simp only [List.cons_append, List.append_assoc]; exact List.Sublist.cons_cons _ (List.Sublist.cons _ (List.sublist_append_right _ _)))
    · exact fun w G cx => cx.sub (by simp only [List.cons_append, List.append_assoc]; exact List.Sublist.cons_cons _ (List.Sublist.cons _ (List.sublist_append_right _ _)))

theorem Take_none [Stable Φ] {b : Nat} {cs : List Value} {first sent : Nat} (c : Ctx W w (.blk b cs 59 :: S) Φ) (hc : ChanC cs [] first sent) {K : Ending → World → Prop} (hk : ∀ w', Ctx W w' (.blk b cs 59 :: S) Φ → K (.returned (.tuple #[msg0.v none 0, .int .i64 4])) w') :
    Calls Tryz.prog F.channel_Channel_Take #[.pointer (some ⟨b, 0, none⟩)] w K := by
  refine (Ochannel_Channel_Take_run b 0 (J := fun u w' => K (.returned u) w') c ?_).mono fun e w' ⟨v, he, hj⟩ => by rw [he]; exact hj
  refine fun _ w G cx => Head_none cx hc fun w cx => ⟨_, _, _, _, _, _, _, _, _, rfl, .blk b cs 59 :: S, Φ, inferInstance, cx, fun _ => Br.intro (fun h => fun w G cx => hk w cx.left) (fun h => by cases h)⟩

theorem Take_some [Stable Φ] {b : Nat} {cs : List Value} {first sent : Nat} {m : MsgD} {q : List MsgD} (c : Ctx W w (.blk b cs 59 :: S) Φ) (hc : ChanC cs (m :: q) first sent) (hS : ∀ M w, Φ M w → ChanS cs (m :: q) first M w) {K : Ending → World → Prop}
    (hk : ∀ p cap ds rows w', Fresh ds rows m.deltas → Ctx W w' (.blk b (taken cs first q.length) 59 :: (.buf p m.deltas.length cap ds 62 3 :: rows) ++ S) Φ → K (.returned (.tuple #[m.v p cap, .int .i64 0])) w') :
    Calls Tryz.prog F.channel_Channel_Take #[.pointer (some ⟨b, 0, none⟩)] w K := by
  have hf := hc.lt4
  have hl := hc.len
  have hcnt := hc.count
  refine (Ochannel_Channel_Take_run b 0 (J := fun u w' => K (.returned u) w') c ?_).mono fun e w' ⟨v, he, hj⟩ => by rw [he]; exact hj
  refine fun _ w G cx => Head_some cx hc hS fun p cap ds rows w hfr cx => ⟨_, _, _, _, _, p, _, cap, _, rfl, .blk b cs 59 :: (.buf p m.deltas.length cap ds 62 3 :: rows) ++ S, Φ, inferInstance, by simpa using cx, fun _ => Br.intro (fun h => by cases h) (fun h => ?_)⟩
  refine ⟨[], fun _ _ => True, inferInstance, fun w G cx => (cx.right.weak fun _ _ _ => trivial), fun w G cx => ⟨(first : Int), cx.get 0 rfl (by rw [Nat.zero_add]; exact hc.c24), by omega, fun w G cx => ⟨cx.can 0 rfl (by rw [Int.toNat_natCast]; omega), fun w' hw' => ?_⟩⟩⟩
  rw [Int.toNat_natCast, Nat.zero_add] at hw'
  have cx1 := cx.puts 0 hw' rfl
  refine ⟨.blk b (setL cs (first * 6) [.int .i64 0, .int .i64 0, .int .i64 0, .int .i64 0, .int .i64 0, .slice none 0 0]) 59 :: (.buf p m.deltas.length cap ds 62 3 :: rows) ++ S, Φ, inferInstance, cx1, fun w G cx => (cx.right.weak fun _ _ _ => trivial), fun w G cx => ⟨(first : Int), cx.get 0 rfl ?_, by unfold I64; omega, by omega, fun w G cx => ⟨cx.can 0 rfl (by rw [setL_len]; omega), fun w' hw' => ?_⟩⟩⟩
  · rw [Nat.zero_add, setL_get _ _ _ _ (by simp only [List.length_cons, List.length_nil]; omega)]
    exact hc.c24
  rw [Nat.zero_add] at hw'
  have cx1 := cx.put 0 hw' rfl
  have e1 : ((first : Int) + 1).tmod 4 = ((first + 1) % 4 : Nat) := rfl
  rw [e1] at cx1
  refine ⟨.blk b ((setL cs (first * 6) [.int .i64 0, .int .i64 0, .int .i64 0, .int .i64 0, .int .i64 0, .slice none 0 0]).set 24 (.int .i64 ((first + 1) % 4 : Nat))) 59 :: (.buf p m.deltas.length cap ds 62 3 :: rows) ++ S, Φ, inferInstance, cx1, fun w G cx => ⟨((m :: q).length : Int), cx.get 0 rfl ?_, ?_, fun w G cx => ⟨cx.can 0 rfl ?_, fun w' hw' => ?_⟩⟩⟩
  · rw [Nat.zero_add, List.getElem?_set_ne (by omega), setL_get _ _ _ _ (by simp only [List.length_cons, List.length_nil]; omega)]
    exact hc.c25
  · unfold I64; omega
  · rw [List.length_set, setL_len]; omega
  rw [Nat.zero_add] at hw'
  have cx1 := cx.put 0 hw' rfl
  have e2 : ((m :: q).length : Int) - 1 = (q.length : Nat) := by rw [List.length_cons]; omega
  rw [e2] at cx1
  exact ⟨.blk b (taken cs first q.length) 59 :: (.buf p m.deltas.length cap ds 62 3 :: rows) ++ S, Φ, inferInstance, cx1, fun w G cx => hk p cap ds rows w hfr cx.left⟩

theorem Send_arg [Stable Φ] {b : Nat} {cs : List Value} {m : MsgD} {p : Option Addr} {cap : Nat} (c : Ctx W w (.blk b cs 59 :: S) Φ) (hm : ∀ M w, Φ M w → Sl M w p m.deltas) (hlen : m.deltas.length ≤ 9223372036854775807) (hr : rightM m = false) {K : Ending → World → Prop}
    (hk : ∀ w', Ctx W w' (.blk b cs 59 :: S) Φ → K (.returned (.int .i64 1)) w') : Calls Tryz.prog F.channel_Channel_Send #[.pointer (some ⟨b, 0, none⟩), m.v p cap] w K := by
  refine (Ochannel_Channel_Send_run b 0 m.kind m.node m.inp m.bucket m.n p m.deltas.length cap (J := fun u w' => K (.returned u) w') c ?_).mono fun e w' ⟨v, he, hj⟩ => by rw [he]; exact hj
  exact fun _ w G cx => (Right_in p cap m hm hlen).use cx fun w cx => ⟨_, rfl, .blk b cs 59 :: S, Φ, inferInstance, cx, Br.intro (fun h => fun w G cx => hk w cx.left) (fun h => by rw [hr] at h; cases h)⟩

theorem Send_full [Stable Φ] {b : Nat} {cs : List Value} {m : MsgD} {p : Option Addr} {cap : Nat} {q : List MsgD} {first sent : Nat} (c : Ctx W w (.blk b cs 59 :: S) Φ) (hc : ChanC cs q first sent) (hm : ∀ M w, Φ M w → Sl M w p m.deltas) (hlen : m.deltas.length ≤ 9223372036854775807) (hr : rightM m = true) (hq : q.length = 4)
    {K : Ending → World → Prop} (hk : ∀ w', Ctx W w' (.blk b cs 59 :: S) Φ → K (.returned (.int .i64 27)) w') : Calls Tryz.prog F.channel_Channel_Send #[.pointer (some ⟨b, 0, none⟩), m.v p cap] w K := by
  refine (Ochannel_Channel_Send_run b 0 m.kind m.node m.inp m.bucket m.n p m.deltas.length cap (J := fun u w' => K (.returned u) w') c ?_).mono fun e w' ⟨v, he, hj⟩ => by rw [he]; exact hj
  exact fun _ w G cx => (Right_in p cap m hm hlen).use cx fun w cx => ⟨_, rfl, .blk b cs 59 :: S, Φ, inferInstance, cx, Br.intro (fun h => by rw [hr] at h; cases h) (fun h => fun w G cx => ⟨_, cx.get 0 rfl (by rw [Nat.zero_add]; exact hc.c25), Br.intro (fun h => fun w G cx => hk w cx.left) (fun h => by simp at h; omega)⟩)⟩

theorem Send_ok [Stable Φ] {b : Nat} {cs : List Value} {m : MsgD} {p : Option Addr} {cap : Nat} {q : List MsgD} {first sent : Nat} (c : Ctx W w (.blk b cs 59 :: S) Φ) (hc : ChanC cs q first sent) (hm : ∀ M w, Φ M w → Sl M w p m.deltas) (hlen : m.deltas.length ≤ 9223372036854775807) (hr : rightM m = true) (hq : q.length < 4)
    (hs : sent < 1000000) {K : Ending → World → Prop}
    (hk : ∀ p' cap' w', m.deltas.length ≤ cap' → cap' ≤ maxLen → Ctx W w' (.blk b (sentTo cs first q.length sent (m.cells p' cap')) 59 :: S) (fun M w => Φ M w ∧ Sl M w p' m.deltas) → K (.returned (.int .i64 0)) w') :
    Calls Tryz.prog F.channel_Channel_Send #[.pointer (some ⟨b, 0, none⟩), m.v p cap] w K := by
  have hf := hc.lt4
  have hl := hc.len
  have hsm := right_small hr
  have hix : (first + q.length) % 4 < 4 := Nat.mod_lt _ (by omega)
  have htm : ((first : Int) + (q.length : Int)).tmod 4 = ((first + q.length) % 4 : Nat) := rfl
  have held : ∀ {ds : List Value} (h24 : ds[24]? = some (.int .i64 first)) (h25 : ds[25]? = some (.int .i64 q.length)) {w : World} {G : List Own} {Ψ : PW} [Stable Ψ], Ctx W w (.blk b ds 59 :: S ++ G) Ψ → Ctx W w (S ++ G) (fun M w => RowIn b 24 [.int .i64 first, .int .i64 q.length] M w) := by
    intro ds h24 h25 w G Ψ _ cx
    exact cx.park.weak fun M w h => h.2.rowIn fun j hj => by
      match j, hj with
      | 0, _ => exact h24
      | 1, _ => exact h25
  refine (Ochannel_Channel_Send_run b 0 m.kind m.node m.inp m.bucket m.n p m.deltas.length cap (J := fun u w' => K (.returned u) w') c ?_).mono fun e w' ⟨v, he, hj⟩ => by rw [he]; exact hj
  refine fun _ w G cx => (Right_in p cap m hm hlen).use cx fun w cx => ⟨_, rfl, .blk b cs 59 :: S, Φ, inferInstance, cx, Br.intro (fun h => by rw [hr] at h; cases h) (fun h => fun w G cx => ⟨_, cx.get 0 rfl (by rw [Nat.zero_add]; exact hc.c25), Br.intro (fun h => by simp at h; omega) (fun h => ?_)⟩)⟩
  refine ⟨S, fun M w => RowIn b 24 [.int .i64 first, .int .i64 q.length] M w, inferInstance, fun w G cx => held hc.c24 hc.c25 cx, (first : Int), fun w G cx => ⟨_, ?_, rfl⟩, (q.length : Int), fun w G cx => ⟨_, ?_, rfl⟩, by unfold I64; omega, by omega, fun w G cx => ?_⟩
  · have := cx.phi.2.1 0 (by simp)
    rw [Nat.zero_add]
    exact this
  · have := cx.phi.2.1 1 (by simp)
    rw [Nat.zero_add]
    exact this
  refine (clone_copy p cap m hm hsm.1 hsm.2).gsl.use cx fun p' cap' w hc1 hc2 cx => ⟨_, _, _, _, _, p', _, cap', rfl, .blk b cs 59 :: S, fun M w => Φ M w ∧ Sl M w p' m.deltas, inferInstance, cx, fun w G cx => held hc.c24 hc.c25 cx, by rw [htm]; omega, fun w G cx => ⟨cx.can 0 rfl (by rw [htm, Int.toNat_natCast]; omega), fun w' hw' => ?_⟩⟩
  rw [htm, Int.toNat_natCast, Nat.zero_add] at hw'
  have cx1 := cx.puts 0 hw' rfl
  have g24 : (setL cs ((first + q.length) % 4 * 6) (m.cells p' cap'))[24]? = some (.int .i64 first) := by rw [setL_get _ _ _ _ (by simp only [List.length_cons, List.length_nil]; omega)]; exact hc.c24
  have g25 : (setL cs ((first + q.length) % 4 * 6) (m.cells p' cap'))[25]? = some (.int .i64 q.length) := by rw [setL_get _ _ _ _ (by simp only [List.length_cons, List.length_nil]; omega)]; exact hc.c25
  refine ⟨.blk b (setL cs ((first + q.length) % 4 * 6) (m.cells p' cap')) 59 :: S, fun M w => Φ M w ∧ Sl M w p' m.deltas, inferInstance, cx1, fun w G cx => held g24 g25 cx, fun w G cx => ⟨(q.length : Int), cx.get 0 rfl (by rw [Nat.zero_add]; exact g25), by unfold I64; omega, fun w G cx => ⟨cx.can 0 rfl (by rw [setL_len]; omega), fun w' hw' => ?_⟩⟩⟩
  rw [Nat.zero_add] at hw'
  have cx1 := cx.put 0 hw' rfl
  have e1 : (q.length : Int) + 1 = (q.length + 1 : Nat) := by omega
  rw [e1] at cx1
  refine ⟨.blk b ((setL cs ((first + q.length) % 4 * 6) (m.cells p' cap')).set 25 (.int .i64 (q.length + 1 : Nat))) 59 :: S, fun M w => Φ M w ∧ Sl M w p' m.deltas, inferInstance, cx1, fun w G cx => ⟨(sent : Int), cx.get 0 rfl ?_, by unfold I64; omega, fun w G cx => ⟨cx.can 0 rfl ?_, fun w' hw' => ?_⟩⟩⟩
  · rw [Nat.zero_add, List.getElem?_set_ne (by omega), setL_get _ _ _ _ (by simp only [List.length_cons, List.length_nil]; omega)]
    exact hc.c26
  · rw [List.length_set, setL_len]; omega
  rw [Nat.zero_add] at hw'
  have cx1 := cx.put 0 hw' rfl
  have e2 : (sent : Int) + 1 = (sent + 1 : Nat) := by omega
  rw [e2] at cx1
  exact ⟨.blk b (sentTo cs first q.length sent (m.cells p' cap')) 59 :: S, fun M w => Φ M w ∧ Sl M w p' m.deltas, inferInstance, cx1, fun w G cx => hk p' cap' w hc1 hc2 cx.left⟩

end

end Go.Proofs.YtfpgbejdlikpgaaGreatDoor
end

/-
  The reference's Right, walked. (Out of r36Ve, over the delta family.)
-/
section
set_option linter.unusedVariables false
set_option linter.unusedSimpArgs false
namespace Go.Proofs.YtfpgbejdlikpgaaGreatDoor
open Go.Vc

theorem cmpI_refl (x : Int) : cmpI x x = 0 := by unfold cmpI; simp
theorem cmpV_refl (x : ValD) : cmpV x x = 0 := by
  unfold cmpV cmpL
  rw [cmpI_refl, cmpI_refl, cmpT_refl]
  rfl
theorem cmpR_refl : ∀ l : List ValD, cmpR l l = 0
  | [] => rfl
  | x :: r => by unfold cmpR; rw [cmpV_refl, cmpR_refl r]; simp

theorem any_not {α : Type} (q : α → Bool) (l : List α) (i : Nat) (hi : i < l.length) (h : q l[i] = false) : (!l.any fun x => !q x) = false := by
  rw [Bool.not_eq_false', List.any_eq_true]
  exact ⟨l[i], List.getElem_mem _, by rw [h]; rfl⟩
theorem any_all {α : Type} (q : α → Bool) (l : List α) (h : ∀ i, (hi : i < l.length) → q l[i] = true) : (!l.any fun x => !q x) = true := by
  rw [Bool.not_eq_true', List.any_eq_false]
  intro x hx
  obtain ⟨i, hi, rfl⟩ := List.getElem_of_mem hx
  rw [h i hi]
  simp

theorem rSameRows_in {Φ : PW} [Stable Φ] (p q : Option Addr) (cap cap2 : Nat) (l r : List ValD) (hΦ : ∀ M w, Φ M w → Sl M w p l) (hΨ : ∀ M w, Φ M w → Sl M w q r) (hlen : l.length ≤ 9223372036854775807) :
    GivesIn Φ Tryz.prog F.errataref03_Same #[.slice p l.length cap, .slice q r.length cap2] (.bool (decide (cmpR l r = 0))) := by
  refine gives_in (Berrataref03_Same_run p l.length cap q r.length cap2) fun W R => ?_
  exact fun w G cx => (rCompareRows_in p q cap cap2 l r hΦ hΨ hlen).use cx fun w cx => ⟨_, rfl, R, Φ, inferInstance, cx, fun w G cx => ⟨rfl, cx.left⟩⟩

theorem headM_iff (m : MsgD) : headM m = true ↔ (0 ≤ m.kind ∧ m.kind < 3 ∧ 0 ≤ m.node ∧ m.node ≤ 1099511627776 ∧ 0 ≤ m.inp ∧ m.inp ≤ 1099511627776 ∧ 0 ≤ m.bucket ∧ m.bucket ≤ 1099511627776 ∧ -1 ≤ m.n ∧ m.n ≤ 1099511627776 ∧ (m.deltas.length = 0 ∨ m.kind = 0) ∧ m.deltas.length ≤ 8) := by
  unfold headM numsM numBad
  simp only [List.any_cons, List.any_nil, Bool.or_false, Bool.and_eq_true, Bool.not_eq_true', Bool.or_eq_false_iff, Bool.and_eq_false_iff, decide_eq_false_iff_not, Decidable.not_not]
  omega

set_option maxHeartbeats 1000000 in
theorem rRight_in {Φ : PW} [Stable Φ] (p : Option Addr) (cap : Nat) (m : MsgD) (hΦ : ∀ M w, Φ M w → Sl M w p m.deltas) (hlen : m.deltas.length ≤ 9223372036854775807) :
    GivesIn Φ Tryz.prog F.errataref36_Right #[m.v p cap] (.bool (rightM m)) := by
  refine .pinned hΦ fun b o cs hp => ?_
  refine in_cells (fun M w h => h.2) fun hcs => ?_
  refine gives_in (Berrataref36_Right_run m.kind m.node m.inp m.bucket m.n p m.deltas.length cap) fun W R => ?_
  refine fun _ w G cx => fun w G cx => Br.intro (fun h1 => fun w G cx => ⟨?_, cx.left⟩) (fun h1 => Br.intro (fun h2 => fun w G cx => ⟨?_, cx.left⟩) (fun h2 => fun w G cx => ?_))
  · have : headM m = false := by
      rw [← Bool.not_eq_true, headM_iff]
      simp only [Bool.not_eq_true', Bool.and_eq_false_iff, decide_eq_false_iff_not] at h1
      omega
    unfold rightM
    rw [this]; rfl
  · have : headM m = false := by
      rw [← Bool.not_eq_true, headM_iff]
      simp only [Bool.not_eq_true', Bool.and_eq_false_iff, Bool.or_eq_false_iff, decide_eq_false_iff_not] at h2
      omega
    unfold rightM
    rw [this]; rfl
  have hhead : headM m = true := by
    rw [headM_iff]
    simp only [Bool.not_eq_false', Bool.and_eq_true, Bool.or_eq_true, decide_eq_true_eq] at h1 h2
    omega
  unfold rightM
  rw [hhead, Bool.true_and]
  refine (Con28_pin (Φ := fun M w => Φ M w ∧ Pin b o cs m.deltas M w) p cap m.deltas b o cs hp (fun _ _ h => h.2) hlen).use cx fun w cx => ⟨_, rfl, R, fun M w => Φ M w ∧ Pin b o cs m.deltas M w, inferInstance, cx, Br.intro (fun h3 => fun w G cx => ⟨?_, cx.left⟩) (fun h3 => ?_)⟩
  · have h3 : consolidated m.deltas = false := by simpa using h3
    rw [h3]; rfl
  have h3 : consolidated m.deltas = true := by simpa using h3
  rw [h3, Bool.true_and]
  refine exI_mk (fun n R' Φ' k => ∃ i : Nat, n = i ∧ i ≤ m.deltas.length ∧ R' = R ∧ Φ' = (fun M w => Φ M w ∧ Pin b o cs m.deltas M w) ∧ k = m.deltas.length - i ∧ ∀ j, (hj : j < m.deltas.length) → j < i → rightR m.deltas[j].row = true) ⟨⟨R, _, _, inferInstance, fun w F c => c, 0, rfl, Nat.zero_le _, rfl, rfl, rfl, fun j hj h => by omega⟩, ?_⟩
  rintro n R1 Φ1 k _ ⟨i, rfl, hi, rfl, rfl, rfl, hok⟩
  refine Br.intro (fun hlt => ?_) (fun hge => fun w G cx => ⟨?_, cx.left⟩)
  · have hlt : i < m.deltas.length := by simpa using hlt
    obtain ⟨q, qc, he, hq1, hq2, _, _⟩ := hcs i hlt
    refine ⟨by omega, ptrK_intro b o (hp (by omega)) fun w G cx => ⟨q, m.deltas[i].row.length, qc, pin_rowAt cx.phi.2 hlt he 1 (by simp), fun w G cx => (RightRow3_in (Φ := fun M w => Φ M w ∧ Pin b o cs m.deltas M w) q qc m.deltas[i].row (fun M w h => pin_row h.2 hlt he) (len_max hq1 hq2)).use cx fun w cx => ⟨_, rfl, R1, _, inferInstance, cx, Br.intro (fun h => fun w G cx => ⟨?_, cx.left⟩) (fun h => ⟨by unfold I64; omega, R1, _, m.deltas.length - (i + 1), inferInstance, fun w F c => c, ⟨i + 1, rfl, hlt, rfl, rfl, rfl, fun j hj hji => ?_⟩, by omega⟩)⟩⟩⟩
    · rw [any_not (fun d : DeltaD => rightR d.row) m.deltas i hlt (by simpa using h)]
    · rcases Nat.lt_or_ge j i with h' | h'
      · exact hok j hj h'
      · have : j = i := by omega
        subst this
        simpa using h
  · have hge : i = m.deltas.length := Nat.le_antisymm hi (by simpa using hge)
    rw [any_all (fun d : DeltaD => rightR d.row) m.deltas fun j hj => hok j hj (by omega)]

end Go.Proofs.YtfpgbejdlikpgaaGreatDoor
end

/-
  Formulas in an older shape (printed by a program for another seat; numbers of types turned).
-/
section
namespace Go.Proofs.YtfpgbejdlikpgaaGreatDoor
set_option linter.unusedVariables false
set_option linter.unusedSimpArgs false
set_option maxRecDepth 100000
open Go.Vc

def Oerrataref36_Same (a0 : Int) (a1 : Int) (a2 : Int) (a3 : Int) (a4 : Int) (a5P : Option Addr) (a5N a5C : Nat) (b0 : Int) (b1 : Int) (b2 : Int) (b3 : Int) (b4 : Int) (b5P : Option Addr) (b5N b5C : Nat) (W : World) (R : List Own) (Φ : PW) (J : Value → World → Prop) : Prop :=
  ∀ (b b : Nat) (w0 : World) (R1 : List Own), Ctx W w0 (R ++ R1) Φ → Br (decide (a0 ≠ b0) || decide (a1 ≠ b1) || decide (a2 ≠ b2) || decide (a3 ≠ b3) || decide (a4 ≠ b4) || decide ((↑a5N :
  Int) ≠ (↑b5N : Int))) (∀ (w2 : World) (R3 : List Own), Ctx W w2 (R ++ R3) Φ → J (Value.bool false) w2) (exI fun (I4 : Int → List Own → PW → Nat → Prop) => (∃ (R5 : List Own), ∃ (Φ6 : PW), ∃
  (k7 : Nat), Stable Φ6 ∧ (∀ (w8 : World) (R9 : List Own), Ctx W w8 (R ++ R9) Φ → Ctx W w8 (R5 ++ R9) Φ6) ∧ I4 0 R5 Φ6 k7) ∧ ∀ (n10 : Int) (R11 : List Own) (I12 : List Nat → World → Prop)
  (k13 : Nat), Stable I12 → I4 n10 R11 I12 k13 → Br (decide (n10 < (↑a5N : Int))) (∃ (R14 : List Own), ∃ (Φ15 : PW), Stable Φ15 ∧ (∀ (w16 : World) (R17 : List Own), Ctx W w16 (R11 ++ R17) I12
  → Ctx W w16 (R14 ++ R17) Φ15) ∧ (0 ≤ n10 ∧ n10 < (↑a5N : Int)) ∧ ptrK none a5P fun (k18 k19 : Nat) => (0 ≤ n10 ∧ n10 < (↑b5N : Int)) ∧ ptrK none b5P fun (k20 k21 : Nat) => ∃ (n22 : Int), (∀
  (w23 : World) (R24 : List Own), Ctx W w23 (R14 ++ R24) Φ15 → ∃ (n25 : Int), w23.cell? (Addr.mk k18 (k19 + n10.toNat * 3) none) = some (Value.int IntKind.i64 n25) ∧ Value.int IntKind.i64 n25
  = Value.int IntKind.i64 n22) ∧ ∃ (n26 : Int), (∀ (w27 : World) (R28 : List Own), Ctx W w27 (R14 ++ R28) Φ15 → ∃ (n29 : Int), w27.cell? (Addr.mk k20 (k21 + n10.toNat * 3) none) = some
  (Value.int IntKind.i64 n29) ∧ Value.int IntKind.i64 n29 = Value.int IntKind.i64 n26) ∧ Br (decide (n22 ≠ n26)) (∀ (w30 : World) (R31 : List Own), Ctx W w30 (R11 ++ R31) I12 → J (Value.bool
  false) w30) ((0 ≤ n10 ∧ n10 < (↑a5N : Int)) ∧ ptrK none a5P fun (k32 k33 : Nat) => (0 ≤ n10 ∧ n10 < (↑b5N : Int)) ∧ ptrK none b5P fun (k34 k35 : Nat) => ∃ (n36 : Int), (∀ (w37 : World) (R38
  : List Own), Ctx W w37 (R14 ++ R38) Φ15 → ∃ (n39 : Int), w37.cell? (Addr.mk k32 (k33 + n10.toNat * 3 + 2) none) = some (Value.int IntKind.i64 n39) ∧ Value.int IntKind.i64 n39 = Value.int
  IntKind.i64 n36) ∧ ∃ (n40 : Int), (∀ (w41 : World) (R42 : List Own), Ctx W w41 (R14 ++ R42) Φ15 → ∃ (n43 : Int), w41.cell? (Addr.mk k34 (k35 + n10.toNat * 3 + 2) none) = some (Value.int
  IntKind.i64 n43) ∧ Value.int IntKind.i64 n43 = Value.int IntKind.i64 n40) ∧ Br (decide (n36 ≠ n40)) (∀ (w44 : World) (R45 : List Own), Ctx W w44 (R11 ++ R45) I12 → J (Value.bool false) w44)
  ((0 ≤ n10 ∧ n10 < (↑a5N : Int)) ∧ ptrK none a5P fun (k46 k47 : Nat) => (0 ≤ n10 ∧ n10 < (↑b5N : Int)) ∧ ptrK none b5P fun (k48 k49 : Nat) => ∃ (p50 : Option Addr), ∃ (k51 : Nat), ∃ (k52 :
  Nat), (∀ (w53 : World) (R54 : List Own), Ctx W w53 (R14 ++ R54) Φ15 → ∃ (p55 : Option Addr), ∃ (k56 : Nat), ∃ (k57 : Nat), w53.cell? (Addr.mk k46 (k47 + n10.toNat * 3 + 1) none) = some
  (Value.slice p55 k56 k57) ∧ Value.slice p55 k56 k57 = Value.slice p50 k51 k52) ∧ ∃ (p58 : Option Addr), ∃ (k59 : Nat), ∃ (k60 : Nat), (∀ (w61 : World) (R62 : List Own), Ctx W w61 (R14 ++
  R62) Φ15 → ∃ (p63 : Option Addr), ∃ (k64 : Nat), ∃ (k65 : Nat), w61.cell? (Addr.mk k48 (k49 + n10.toNat * 3 + 1) none) = some (Value.slice p63 k64 k65) ∧ Value.slice p63 k64 k65 =
  Value.slice p58 k59 k60) ∧ ∀ (w66 : World) (R67 : List Own), Ctx W w66 (R11 ++ R67) I12 → Calls Tryz.prog F.errataref03_Same #[Value.slice p50 k51 k52, Value.slice p58 k59 k60] w66 fun (e68
  : Ending) (w69 : World) => ∃ (c70 : Bool), e68 = Ending.returned (Value.bool c70) ∧ ∃ (R71 : List Own), ∃ (Φ72 : PW), Stable Φ72 ∧ Ctx W w69 (R71 ++ R67) Φ72 ∧ (∀ (w73 : World) (R74 : List
  Own), Ctx W w73 (R71 ++ R74) Φ72 → Ctx W w73 (R14 ++ R74) Φ15) ∧ Br (!c70) (∀ (w75 : World) (R76 : List Own), Ctx W w75 (R71 ++ R76) Φ72 → J (Value.bool false) w75) (I64 (n10 + 1) ∧ ∃ (R77
  : List Own), ∃ (Φ78 : PW), ∃ (k79 : Nat), Stable Φ78 ∧ (∀ (w80 : World) (R81 : List Own), Ctx W w80 (R71 ++ R81) Φ72 → Ctx W w80 (R77 ++ R81) Φ78) ∧ I4 (n10 + 1) R77 Φ78 k79 ∧ k79 < k13))))
  (∀ (w82 : World) (R83 : List Own), Ctx W w82 (R11 ++ R83) I12 → J (Value.bool true) w82))

theorem Oerrataref36_Same_run (a0 : Int) (a1 : Int) (a2 : Int) (a3 : Int) (a4 : Int) (a5P : Option Addr) (a5N a5C : Nat) (b0 : Int) (b1 : Int) (b2 : Int) (b3 : Int) (b4 : Int) (b5P : Option Addr) (b5N b5C : Nat) {W w : World} {R : List Own} {Φ : PW} [Stable Φ] {J : Value → World → Prop} (c : Ctx W w R Φ) (h : Oerrataref36_Same a0 a1 a2 a3 a4 a5P a5N a5C b0 b1 b2 b3 b4 b5P b5N b5C W R Φ J) : Calls Tryz.prog F.errataref36_Same #[.agg #[.int .i64 a0, .int .i64 a1, .int .i64 a2, .int .i64 a3, .int .i64 a4, .slice a5P a5N a5C], .agg #[.int .i64 b0, .int .i64 b1, .int .i64 b2, .int .i64 b3, .int .i64 b4, .slice b5P b5N b5C]] w fun e w' => ∃ v, e = .returned v ∧ J v w' :=
  vcFS_sound (H := { keep := some [2, 3, 4, 5, 47, 52, 98], track := [2, 3], stages := [(6, [.held [(0, true), (2, true), (6, true), (8, true), (1, true), (7, true), (3, true), (9, true), (4, true), (10, true), (5, true), (11, true), (12, true), (13, true), (14, true), (16, true), (20, true), (22, true), (15, true), (21, true), (17, true), (23, true), (18, true), (24, true), (19, true), (25, true), (26, true), (27, true), (28, true), (29, true), (31, true), (35, true), (37, true), (30, true), (36, true), (32, true), (38, true), (33, true), (39, true), (34, true), (40, true), (41, false), (42, true), (43, true)]])], loops := [(4, [(5, .one (.int .i64))], [])] }) (by rw [show vcFS Tryz.prog W { keep := some [2, 3, 4, 5, 47, 52, 98], track := [2, 3], stages := [(6, [.held [(0, true), (2, true), (6, true), (8, true), (1, true), (7, true), (3, true), (9, true), (4, true), (10, true), (5, true), (11, true), (12, true), (13, true), (14, true), (16, true), (20, true), (22, true), (15, true), (21, true), (17, true), (23, true), (18, true), (24, true), (19, true), (25, true), (26, true), (27, true), (28, true), (29, true), (31, true), (35, true), (37, true), (30, true), (36, true), (32, true), (38, true), (33, true), (39, true), (34, true), (40, true), (41, false), (42, true), (43, true)]])], loops := [(4, [(5, .one (.int .i64))], [])] } F.errataref36_Same #[.agg #[.int .i64 a0, .int .i64 a1, .int .i64 a2, .int .i64 a3, .int .i64 a4, .slice a5P a5N a5C], .agg #[.int .i64 b0, .int .i64 b1, .int .i64 b2, .int .i64 b3, .int .i64 b4, .slice b5P b5N b5C]] R Φ J = Oerrataref36_Same a0 a1 a2 a3 a4 a5P a5N a5C b0 b1 b2 b3 b4 b5P b5N b5C W R Φ J by kernel_rfl]; exact h) c

def Oerrataref36_SameList (aP : Option Addr) (aN aC : Nat) (bP : Option Addr) (bN bC : Nat) (W : World) (R : List Own) (Φ : PW) (J : Value → World → Prop) : Prop :=
  Br (decide ((↑aN : Int) ≠ (↑bN : Int))) (∀ (w0 : World) (R1 : List Own), Ctx W w0 (R ++ R1) Φ → J (Value.bool false) w0) (exI fun (I2 : Int → List Own → PW → Nat → Prop) => (∃ (R3 : List
  Own), ∃ (Φ4 : PW), ∃ (k5 : Nat), Stable Φ4 ∧ (∀ (w6 : World) (R7 : List Own), Ctx W w6 (R ++ R7) Φ → Ctx W w6 (R3 ++ R7) Φ4) ∧ I2 0 R3 Φ4 k5) ∧ ∀ (n8 : Int) (R9 : List Own) (I10 : List Nat
  → World → Prop) (k11 : Nat), Stable I10 → I2 n8 R9 I10 k11 → Br (decide (n8 < (↑aN : Int))) (∃ (R12 : List Own), ∃ (Φ13 : PW), Stable Φ13 ∧ (∀ (w14 : World) (R15 : List Own), Ctx W w14 (R9
  ++ R15) I10 → Ctx W w14 (R12 ++ R15) Φ13) ∧ (0 ≤ n8 ∧ n8 < (↑aN : Int)) ∧ ptrK none aP fun (k16 k17 : Nat) => (0 ≤ n8 ∧ n8 < (↑bN : Int)) ∧ ptrK none bP fun (k18 k19 : Nat) => ∀ (w20 :
  World) (R21 : List Own), Ctx W w20 (R9 ++ R21) I10 → ∃ (n22 : Int), ∃ (n23 : Int), ∃ (n24 : Int), ∃ (n25 : Int), ∃ (n26 : Int), ∃ (p27 : Option Addr), ∃ (k28 : Nat), ∃ (k29 : Nat), RowAt
  w20 k16 (k17 + n8.toNat * 6) [Value.int IntKind.i64 n22, Value.int IntKind.i64 n23, Value.int IntKind.i64 n24, Value.int IntKind.i64 n25, Value.int IntKind.i64 n26, Value.slice p27 k28 k29]
  ∧ ∀ (w30 : World) (R31 : List Own), Ctx W w30 (R9 ++ R31) I10 → ∃ (n32 : Int), ∃ (n33 : Int), ∃ (n34 : Int), ∃ (n35 : Int), ∃ (n36 : Int), ∃ (p37 : Option Addr), ∃ (k38 : Nat), ∃ (k39 :
  Nat), RowAt w30 k18 (k19 + n8.toNat * 6) [Value.int IntKind.i64 n32, Value.int IntKind.i64 n33, Value.int IntKind.i64 n34, Value.int IntKind.i64 n35, Value.int IntKind.i64 n36, Value.slice
  p37 k38 k39] ∧ ∀ (w40 : World) (R41 : List Own), Ctx W w40 (R9 ++ R41) I10 → Calls Tryz.prog F.errataref36_Same #[Value.agg #[Value.int IntKind.i64 n22, Value.int IntKind.i64 n23, Value.int
  IntKind.i64 n24, Value.int IntKind.i64 n25, Value.int IntKind.i64 n26, Value.slice p27 k28 k29], Value.agg #[Value.int IntKind.i64 n32, Value.int IntKind.i64 n33, Value.int IntKind.i64 n34,
  Value.int IntKind.i64 n35, Value.int IntKind.i64 n36, Value.slice p37 k38 k39]] w40 fun (e42 : Ending) (w43 : World) => ∃ (c44 : Bool), e42 = Ending.returned (Value.bool c44) ∧ ∃ (R45 :
  List Own), ∃ (Φ46 : PW), Stable Φ46 ∧ Ctx W w43 (R45 ++ R41) Φ46 ∧ (∀ (w47 : World) (R48 : List Own), Ctx W w47 (R45 ++ R48) Φ46 → Ctx W w47 (R12 ++ R48) Φ13) ∧ Br (!c44) (∀ (w49 : World)
  (R50 : List Own), Ctx W w49 (R45 ++ R50) Φ46 → J (Value.bool false) w49) (I64 (n8 + 1) ∧ ∃ (R51 : List Own), ∃ (Φ52 : PW), ∃ (k53 : Nat), Stable Φ52 ∧ (∀ (w54 : World) (R55 : List Own), Ctx
  W w54 (R45 ++ R55) Φ46 → Ctx W w54 (R51 ++ R55) Φ52) ∧ I2 (n8 + 1) R51 Φ52 k53 ∧ k53 < k11)) (∀ (w56 : World) (R57 : List Own), Ctx W w56 (R9 ++ R57) I10 → J (Value.bool true) w56))

theorem Oerrataref36_SameList_run (aP : Option Addr) (aN aC : Nat) (bP : Option Addr) (bN bC : Nat) {W w : World} {R : List Own} {Φ : PW} [Stable Φ] {J : Value → World → Prop} (c : Ctx W w R Φ) (h : Oerrataref36_SameList aP aN aC bP bN bC W R Φ J) : Calls Tryz.prog F.errataref36_SameList #[.slice aP aN aC, .slice bP bN bC] w fun e w' => ∃ v, e = .returned v ∧ J v w' :=
  vcFS_sound (H := { keep := some [0, 1, 4, 5, 10, 14, 26], stages := [(6, [.late [3, 7] [0, 1, 4, 5, 2, 6, 3, 7] [(8, [9])]])], loops := [(4, [(5, .one (.int .i64))], [])] }) (by rw [show vcFS Tryz.prog W { keep := some [0, 1, 4, 5, 10, 14, 26], stages := [(6, [.late [3, 7] [0, 1, 4, 5, 2, 6, 3, 7] [(8, [9])]])], loops := [(4, [(5, .one (.int .i64))], [])] } F.errataref36_SameList #[.slice aP aN aC, .slice bP bN bC] R Φ J = Oerrataref36_SameList aP aN aC bP bN bC W R Φ J by kernel_rfl]; exact h) c

end Go.Proofs.YtfpgbejdlikpgaaGreatDoor
end

