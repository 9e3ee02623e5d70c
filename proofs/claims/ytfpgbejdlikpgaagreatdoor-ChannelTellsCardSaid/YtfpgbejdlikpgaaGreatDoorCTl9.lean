/-
  Times, ints, and the reference's encoding of deltas, walked.
-/
import Derived.Test.YtfpgbejdlikpgaaGreatDoorCTl8
import Derived.Test.YtfpgbejdlikpgaaGreatDoorCTl5
import Derived.Shelf.Strconv.AtoiAll
import Derived.Shelf.Small.Wraps
import Derived.Stop.IfaceNil
import Derived.Lib.AtoiErrMem
import Derived.Lib.AtoiAllCases
import Derived.Test.YtfpgbejdlikpgaaGreatDoorCards
import Derived.MakeChecks
import Derived.Stop.LaidErr
import Derived.Lib.LaidTab
import Derived.Test.YtfpgbejdlikpgaaGreatDoorCTl6
import Derived.Test.YtfpgbejdlikpgaaGreatDoorCTl4

section
set_option linter.unusedVariables false
set_option linter.unusedSimpArgs false
namespace Go.Proofs.YtfpgbejdlikpgaaGreatDoor
open Go.Vc


section
variable {Φ : PW} {p q : Option Addr} {cap cap2 : Nat} {l : List DeltaD}

set_option maxHeartbeats 1000000 in
theorem RBytes28H [Stable Φ] [hΦ : Has Φ (fun M w => Sl M w p l)] (hc1 : l.length ≤ cap) (hc2 : cap ≤ maxLen) (hlen : l.length ≤ 400) (hfit : ∀ x ∈ l, Fit x) : GivesIn Φ Tryz.prog F.errataref28_Bytes #[.slice p l.length cap] (.string ⟨(bytesL l).toArray⟩) := by
  have hrow : ∀ x ∈ l, x.row.length ≤ 1000000 := fun x hx => Nat.le_trans (hfit x hx).1 (by decide)
  refine gives_in (Berrataref28_Bytes_run p l.length cap) fun W R => ?_
  refine fun w G cx => (Cons28H hc1 hc2 (by omega) hrow).use cx fun p1 c1 w h1 h2 cx => ?_
  have hcfit : ∀ x ∈ consP l, x.row.length ≤ 10000 ∧ ∀ v ∈ x.row, v.text.size ≤ 10000 := consP_row (P := fun r => r.length ≤ 10000 ∧ ∀ v ∈ r, v.text.size ≤ 10000) hfit
  have hcl := consP_len l
  unfold bytesL
  obtain ⟨c, hc⟩ : ∃ c, consP l = c := ⟨_, rfl⟩
  rw [hc] at cx h1 hcl hcfit ⊢
  obtain ⟨g, o, cs, hp, cx⟩ := cx.pin cx.phi.2
  have hcs := Ctx.cells cx (fun M w h => h.2)
  have hI : ∀ j, (hj : j < c.length) → ∀ v ∈ c[j].row, (I64 v.kind ∧ I64 v.num) ∧ v.text.size ≤ maxLen := fun j hj => by
    obtain ⟨q, qc, he, _⟩ := hcs j hj
    exact sl_i64 (pin_row cx.phi.2 hj he)
  have hlenL : ∀ i, i ≤ c.length → (deltasL (c.take i)).length ≤ i * 200000100 := by
    intro i
    induction i with
    | zero => intro _; simp [deltasL]
    | succ i ih =>
      intro hi
      have ih := ih (by omega)
      obtain ⟨_, _, _, _, _, ht, hn⟩ := hcs i (by omega)
      have := deltaB_size ht hn (hI i (by omega)) (hcfit c[i] (List.getElem_mem _))
      rw [List.take_succ_eq_append_getElem (by omega), deltasL_app, deltasL_one, List.length_append, list_size, Nat.add_mul]
      omega
  have hst : Stable (fun M w => (Φ M w ∧ Sl M w p1 c) ∧ Pin g o cs c M w) := inferInstance
  refine ⟨p1, _, c1, rfl, R, fun M w => (Φ M w ∧ Sl M w p1 c) ∧ Pin g o cs c M w, hst, cx, ?_⟩
  clear cx
  have hnat := natB_size (n := (c.length : Int)) (by unfold I64; omega)
  refine fun w G cx => ((Num01_g (c.length : Int) (by unfold I64; omega)).in).toS cx ?_
  clear cx
  refine exI_mk (fun s iI R' Φ' k => ∃ i : Nat, iI = i ∧ i ≤ c.length ∧ s = ⟨((natB c.length).data.toList ++ deltasL (c.take i)).toArray⟩ ∧ R' = R ∧ Φ' = (fun M w => (Φ M w ∧ Sl M w p1 c) ∧ Pin g o cs c M w) ∧ k = c.length - i) ⟨⟨_, _, _, hst, fun w G cx => cx, 0, rfl, Nat.zero_le _, by rw [List.take_zero, show deltasL [] = [] from rfl, List.append_nil], rfl, rfl, rfl⟩, ?_⟩
  rintro s iI R2 Φ2 k _ ⟨i, rfl, hi, rfl, rfl, rfl, rfl⟩
  refine Br.intro (fun hlt => ?_) (fun hge => fun w G cx => ⟨?_, cx.left.weak fun M w h => h.1.1⟩)
  · have hlt : i < c.length := by have := of_decide_eq_true hlt; omega
    obtain ⟨q, qc, he, g1, g2, ht, hn⟩ := hcs i hlt
    have hf := hcfit c[i] (List.getElem_mem hlt)
    have hrs := rowB_size (hI i hlt) hf.1 hf.2
    have s1 := intB_size ht
    have s2 := intB_size hn
    have s3 := textB_size (s := rowB c[i].row) (by omega)
    have hsz := deltaB_size ht hn (hI i hlt) hf
    have hLi := hlenL i hi
    have hb : i * 200000100 ≤ 400 * 200000100 := Nat.mul_le_mul_right _ (by omega)
    have hstep : deltasL (c.take (i + 1)) = deltasL (c.take i) ++ (deltaB c[i]).data.toList := by rw [List.take_succ_eq_append_getElem hlt, deltasL_app, deltasL_one]
    have hS : (ByteArray.mk ((natB c.length).data.toList ++ deltasL (c.take i)).toArray).size ≤ 100000000000 := by
      rw [size_list, List.length_append, list_size]; omega
    have row : ∀ {w : World} {S : List Own}, Ctx W w S (fun M w => (Φ M w ∧ Sl M w p1 c) ∧ Pin g o cs c M w) → RowAt w g (o + (i : Int).toNat * 3) (c[i].cells q qc) := fun cx => by rw [Int.toNat_natCast]; exact pin_rowAt cx.phi.2 hlt he
    obtain ⟨S, hSe⟩ : ∃ S, ByteArray.mk ((natB c.length).data.toList ++ deltasL (c.take i)).toArray = S := ⟨_, rfl⟩
    have hfin : S ++ intB c[i].time ++ textB (rowB c[i].row) ++ intB c[i].n = ⟨((natB c.length).data.toList ++ deltasL (c.take (i + 1))).toArray⟩ := by
      rw [← hSe, ByteArray.append_assoc, ByteArray.append_assoc, mk_app, hstep, List.append_assoc, ← ByteArray.append_assoc]
      rfl
    rw [hSe] at hS ⊢
    refine ⟨R2, _, hst, fun w G cx => cx, by omega, ptrK_intro g o (hp (by omega)) ⟨by omega, ptrK_intro g o (hp (by omega)) ⟨by omega, ptrK_intro g o (hp (by omega)) ⟨c[i].time, fun w G cx => ⟨c[i].time, by have := row cx 0 (by simp); simpa using this, rfl⟩, q, c[i].row.length, qc, fun w G cx => ⟨q, _, qc, by have := row cx 1 (by simp); simpa using this, rfl⟩, c[i].n, fun w G cx => ⟨c[i].n, by have := row cx 2 (by simp); simpa using this, rfl⟩, fun w G cx => ?_⟩⟩⟩⟩
    refine ((Int01_g c[i].time ht).in).toS cx ⟨fun w G cx => cx, by show S.size + (intB c[i].time).size ≤ _; omega, fun w G cx => (RowBytes03_in (Φ := fun M w => (Φ M w ∧ Sl M w p1 c) ∧ Pin g o cs c M w) q qc c[i].row (fun M w h => pin_row h.2 hlt he) (by omega) hf.2).toS cx ⟨fun w G cx => cx, fun w G cx => ((Text01_g (rowB c[i].row) (by omega)).in).toS cx ⟨fun w G cx => cx, by show (S ++ intB c[i].time).size + (textB (rowB c[i].row)).size ≤ _; rw [size_app]; omega,
      fun w G cx => ((Int01_g c[i].n hn).in).toS cx ⟨fun w G cx => cx, by show (S ++ intB c[i].time ++ textB (rowB c[i].row)).size + (intB c[i].n).size ≤ _; rw [size_app, size_app]; omega, by unfold I64; omega, _, _, c.length - (i + 1), hst, fun w G cx => cx, ⟨i + 1, by omega, hlt, hfin, rfl, rfl, rfl⟩, by omega⟩⟩⟩⟩
  · have hge : i = c.length := by have := of_decide_eq_false hge; omega
    subst hge
    rw [List.take_length]
end
end Go.Proofs.YtfpgbejdlikpgaaGreatDoor
end

/-
  Right rows: walked (the first part of lLd, for seats without a ledger).
-/
section
set_option linter.unusedVariables false
set_option linter.unusedSimpArgs false
namespace Go.Proofs.YtfpgbejdlikpgaaGreatDoor
open Go.Vc


/-! ### right rows -/
theorem vInt_g (n : Int) : Gives Tryz.prog F.value_Int #[.int .i64 n] (.agg #[.int .i64 0, .int .i64 n, .string (ByteArray.mk #[])]) :=
  gives_of (Bvalue_Int_run n) fun W R Φ _ => fun _ w G c => ⟨rfl, c.left⟩
theorem vText_g (s : ByteArray) : Gives Tryz.prog F.value_Text #[.string s] (.agg #[.int .i64 1, .int .i64 0, .string s]) :=
  gives_of (Bvalue_Text_run s) fun W R Φ _ => fun _ w G c => ⟨rfl, c.left⟩
theorem vBool_g (b : Bool) : Gives Tryz.prog F.value_Bool #[.bool b] (.agg #[.int .i64 2, .int .i64 (if b = true then 1 else 0), .string (ByteArray.mk #[])]) :=
  gives_of (Bvalue_Bool_run b) fun W R Φ _ => fun _ => Br.intro (fun h => fun w G c => ⟨by rw [if_pos h], c.left⟩) (fun h => fun w G c => ⟨by rw [if_neg (by rw [h]; simp)], c.left⟩)

theorem vRight_g (x : ValD) : Gives Tryz.prog F.value_Right #[x.v] (.bool (rightV3 x)) := by
  refine gives_of (Bvalue_Right_run x.kind x.num x.text) fun W R Φ _ => fun _ => Br.intro (fun h => ?_) (fun h => Br.intro (fun h2 => ?_) (fun h2 => ?_))
  · refine ⟨R, Φ, inferInstance, fun w G c => c, fun w G cx => (vInt_g x.num).use cx fun w c => ⟨0, x.num, ByteArray.mk #[], rfl, R, Φ, inferInstance, c, fun w G c => c, by kernel_rfl, fun w G c => ⟨?_, c.left⟩⟩⟩
    have h := of_decide_eq_true h
    unfold rightV3
    rw [if_pos h, decide_eq_true h, decide_eq_true rfl, Bool.true_and, Bool.true_and, Bool.and_true]
  · refine ⟨R, Φ, inferInstance, fun w G c => c, fun w G cx => (vText_g x.text).use cx fun w c => ⟨1, 0, x.text, rfl, R, Φ, inferInstance, c, fun w G c => c, by kernel_rfl, ?_⟩⟩
    have h := of_decide_eq_false h
    have h2 := of_decide_eq_true h2
    refine Br.intro (fun h3 => fun w G c => ⟨?_, c.left⟩) (fun h3 => fun w G c => ⟨?_, c.left⟩)
    · unfold rightV3
      rw [if_neg h, if_pos h2]
      have : x.num = 0 := by simp at h3; exact h3.2
      rw [decide_eq_true this, Bool.true_and]
    · unfold rightV3
      rw [if_neg h, if_pos h2]
      have : x.num ≠ 0 := by
        intro e
        rw [decide_eq_true h2, decide_eq_true e, decide_eq_true rfl] at h3
        cases h3
      rw [decide_eq_false this, Bool.false_and]
  · have h := of_decide_eq_false h
    have h2 := of_decide_eq_false h2
    have hr : rightV3 x = (decide (x.kind = 2) && (decide (x.num = 0) || decide (x.num = 1)) && decide (x.text = ByteArray.mk #[])) := by unfold rightV3; rw [if_neg h, if_neg h2]
    refine ⟨R, Φ, inferInstance, fun w G c => c, fun w G cx => (vBool_g false).use cx fun w c => ⟨2, 0, ByteArray.mk #[], rfl, R, Φ, inferInstance, c, fun w G c => c, R, Φ, inferInstance, fun w G c => c, by kernel_rfl, ?_⟩⟩
    refine Br.intro (fun h3 => fun w G c => ⟨?_, c.left⟩) (fun h3 => fun w G cx => (vBool_g true).use cx fun w c => ⟨2, 1, ByteArray.mk #[], rfl, R, Φ, inferInstance, c, fun w G c => c, by kernel_rfl, fun w G c => ⟨?_, c.left⟩⟩)
    · rw [hr]
      simp at h3
      simp [h3]
    · rw [hr]
      congr 1
      by_cases k1 : x.kind = 2
      · by_cases k2 : x.text = ByteArray.mk #[]
        · by_cases k3 : x.num = 0
          · rw [k1, k2, k3] at h3
            simp at h3
          · simp [k1, k2, k3]
        · simp [k2]
      · simp [k1]

section
variable {Φ : PW} {W w : World} {R S G : List Own} {p : Option Addr} {cap : Nat} {r : List ValD}

theorem all1_g (x : ValD) : Gives Tryz.prog F.value_all_1 #[x.v] (.bool (!rightV3 x)) :=
  gives_of (Bvalue_all_1_run x.kind x.num x.text) fun W R Φ _ => fun _ w G cx => (vRight_g x).use cx fun w c => ⟨_, rfl, R, Φ, inferInstance, c, fun w G c => ⟨rfl, c.left⟩⟩

theorem IndexV_in [Stable Φ] (f : FuncId) (g : ValD → Bool) [hΦ : Has Φ (fun M w => Sl M w p r)] (hlen : r.length ≤ maxLen) (hf : okFun Tryz.prog f = true) (cp : Array Value) (hg : ∀ x : ValD, Gives Tryz.prog f (Array.mk (x.v :: cp.toList)) (.bool (g x))) :
    GivesIn Φ Tryz.prog F.slices_IndexFunc_api_Value_api_Value #[.slice p r.length cap, .func (.func f) #[] cp] (.int .i64 (findI g 0 r)) := by
  refine .there (fun M w h => (hΦ.go M w h).there) fun hth => ?_
  refine gives_in (Bslices_IndexFunc_api_Value_api_Value_run p r.length cap f cp) fun W R => ?_
  refine exI_mk (fun n R' Φ' k => ∃ i : Nat, n = i ∧ i ≤ r.length ∧ R' = R ∧ Φ' = Φ ∧ k = r.length - i ∧ findI g 0 r = findI g i (r.drop i)) ⟨⟨R, Φ, _, inferInstance, fun w F c => c, 0, rfl, Nat.zero_le _, rfl, rfl, rfl, rfl⟩, ?_⟩
  rintro n R1 Φ1 k _ ⟨i, rfl, hi, rfl, rfl, rfl, hor⟩
  refine Br.intro (fun hlt => ?_) (fun hge => fun w F cx => ⟨?_, cx.left⟩)
  · have hlt : i < r.length := by simpa using hlt
    rw [findI_drop g r i hlt] at hor
    obtain ⟨b, o, rfl⟩ := hth (by omega)
    refine ⟨by omega, ptrK_intro b o rfl fun w F cx => ⟨r[i].kind, r[i].num, r[i].text, by rw [Int.toNat_natCast]; exact sl_val (hΦ.go _ _ cx.phi) hlt, fun w F cx => ⟨hf, (hg r[i]).use cx fun w cx => ⟨g r[i], rfl, R1, Φ1, inferInstance, cx, Br.intro (fun h => fun w F cx => ⟨?_, cx.left⟩) (fun h => ⟨by unfold I64; unfold maxLen at hlen; omega, R1, Φ1, r.length - (i + 1), inferInstance, fun w F c => c, ⟨i + 1, rfl, hlt, rfl, rfl, rfl, ?_⟩, by omega⟩)⟩⟩⟩⟩
    · rw [hor, if_pos h]
    · rw [hor, if_neg (by rw [h]; simp)]
  · have hge : i = r.length := Nat.le_antisymm hi (by simpa using hge)
    rw [hor, hge, List.drop_length]
    rfl

theorem RightRow_in [Stable Φ] [hΦ : Has Φ (fun M w => Sl M w p r)] : GivesIn Φ Tryz.prog F.value_RightRow #[.slice p r.length cap] (.bool (rightR r)) := by
  refine gives_in (Bvalue_RightRow_run p r.length cap) fun W R => Br.intro (fun h => ?_) (fun h => fun w G cx => ⟨?_, cx.left⟩)
  · have h1 := of_decide_eq_true h
    have hml : r.length ≤ maxLen := by have h2 : (12 : Nat) ≤ maxLen := (by decide); omega
    have hcon : GivesIn Φ Tryz.prog F.slices_ContainsFunc_api_Value_api_Value #[.slice p r.length cap, .func (.func F.value_all_1) #[] #[]] (.bool (r.any fun x => !rightV3 x)) := by
      refine gives_in (Bslices_ContainsFunc_api_Value_api_Value_run p r.length cap F.value_all_1 #[]) fun W R => ?_
      exact fun w G cx => (IndexV_in (r := r) F.value_all_1 (fun x => !rightV3 x) hml (by kernel_rfl) #[] all1_g).toI cx fun w G cx => ⟨by rw [findI_any], cx.left⟩
    have hall : GivesIn Φ Tryz.prog F.value_all #[.slice p r.length cap] (.bool (r.all rightV3)) := by
      refine gives_in (Bvalue_all_run p r.length cap) fun W R => ?_
      refine fun w G cx => hcon.toB cx fun w G cx => ⟨?_, cx.left⟩
      rw [List.all_eq_not_any_not]
    refine fun w G cx => hall.toB cx fun w G cx => ⟨?_, cx.left⟩
    unfold rightR
    rw [decide_eq_true h1, Bool.true_and]
  · unfold rightR
    rw [decide_eq_false (of_decide_eq_false h), Bool.false_and]

end
end Go.Proofs.YtfpgbejdlikpgaaGreatDoor
end

/-
  The reader of encodings: in plain Lean, and walked.
-/
section
set_option linter.unusedVariables false
set_option linter.unusedSimpArgs false
namespace Go.Vc
/-- a variable that holds an error, or none, in a block that nobody writes -/
def ErrAt (g : Nat) : PW := fun M w => g ∉ M ∧ ∃ ev, w.cell? ⟨g, 0, none⟩ = some ev ∧ (ev = .nilIface ∨ ∃ te pe, ev = .iface te pe)
instance instStableErrAt (g : Nat) : Stable (ErrAt g) := ⟨fun {M M' w w'} hs ⟨h1, ev, h2, h3⟩ => by
  have hlt : g < w.heap.size := by
    rcases Nat.lt_or_ge g w.heap.size with h' | h'
    · exact h'
    · simp [World.cell?, Array.getElem?_eq_none h'] at h2
  refine ⟨fun hm => ?_, ev, hs.chg.cell h2 h1, h3⟩
  rcases hs.sub g hm with h | h
  · exact h1 h
  · omega⟩
end Go.Vc
namespace Go.Proofs.YtfpgbejdlikpgaaGreatDoor
open Go.Vc


/-- what the reading of numbers looks at -/
def NumI : PW := fun M w => TabI M w ∧ ErrAt 2 M w ∧ ErrAt 3 M w
instance instStableNumI : Stable NumI := instStableAnd TabI (fun M w => ErrAt 2 M w ∧ ErrAt 3 M w)

/-! ### in plain Lean -/
def bs (l : List UInt8) : ByteArray := ⟨l.toArray⟩
theorem bs_size (l : List UInt8) : (bs l).size = l.length := size_list l
/-- what is left, and whether it has failed -/
abbrev RdS := List UInt8 × Bool
def numP (e : UInt8) (least : Int) (l : List UInt8) : Option (Int × List UInt8) :=
  let i := Lib.indexByte (l.take 21) e
  if i < 0 then none else match Lib.atoiAll (l.take i.toNat) with
    | .ok n => if Lib.itoa n = l.take i.toNat ∧ least ≤ n then some (n, l.drop (i.toNat + 1)) else none
    | _ => none
def stepN (e : UInt8) (least : Int) (st : RdS) : Int × RdS := match numP e least st.1 with
  | some (n, r) => (n, (r, st.2))
  | none => (0, ([], true))
def stepC (c : UInt8) (st : RdS) : RdS := match st.1 with
  | [] => ([], true)
  | x :: r => if x = c then (r, st.2) else ([], true)
def stepT (st : RdS) : ByteArray × RdS :=
  let a := stepN 58 0 st
  if (a.2.1.length : Int) < a.1 then (ByteArray.mk #[], ([], true)) else
    let c := stepC 44 (a.2.1.drop a.1.toNat, a.2.2)
    (if c.2 then ByteArray.mk #[] else bs (a.2.1.take a.1.toNat), c)

/-! ### the decimal form, read back -/
/-! ### walked -/
abbrev rd (b : Nat) (st : RdS) : Own := .blk b [.string (bs st.1), .bool st.2] 89

section
variable {W w : World} {R G S : List Own} {Φ : PW} {b : Nat} {st : RdS}

def rdInt (st : RdS) : Int × RdS := stepN 59 (-9223372036854775808) st
def rdNat (st : RdS) : Int × RdS := stepN 59 0 st

def rdDone (st : RdS) : Bool := !st.2 && decide (st.1 = [])
end
end Go.Proofs.YtfpgbejdlikpgaaGreatDoor
end

/-
  From what a row lists as laid to the facts of the walk.
-/
section
set_option linter.unusedVariables false
set_option linter.unusedSimpArgs false
namespace Go.Proofs.YtfpgbejdlikpgaaGreatDoor
open Go.Vc Go.RowKit


end Go.Proofs.YtfpgbejdlikpgaaGreatDoor
end

/-
  Messages as plain data; channel.Right, walked. (Out of r36Vb, r36Vc, over the delta family.)
-/
section
set_option linter.unusedVariables false
set_option linter.unusedSimpArgs false
namespace Go.Proofs.YtfpgbejdlikpgaaGreatDoor
open Go.Vc

theorem ContainsD_in {Φ : PW} [Stable Φ] (p : Option Addr) (cap : Nat) (l : List DeltaD) (b o : Nat) (cs : List (List Value)) (f : FuncId) (q : DeltaD → Bool) (hp : 0 < l.length → p = some ⟨b, o, none⟩) (hΦ : ∀ M w, Φ M w → Pin b o cs l M w) (hlen : l.length ≤ 9223372036854775807) (hf : okFun Tryz.prog f = true)
    (hq : ∀ j, (hj : j < l.length) → ∀ r c, cs.getD j [] = l[j].cells r c → l[j].row.length ≤ c → c ≤ maxLen → GivesIn Φ Tryz.prog f #[l[j].v r c] (.bool (q l[j]))) :
    GivesIn Φ Tryz.prog F.slices_ContainsFunc_api_Delta_api_Delta #[.slice p l.length cap, .func (.func f) #[] #[]] (.bool (l.any q)) := by
  refine gives_in (Bslices_ContainsFunc_api_Delta_api_Delta_run p l.length cap f #[]) fun W R => ?_
  exact fun w F cx => (IndexD_in p cap l b o cs f #[] q hp hΦ hlen hf hq).use cx fun w cx => ⟨_, rfl, R, Φ, inferInstance, cx, fun w F cx => ⟨by rw [findI_any], cx.left⟩⟩

theorem Right1_in {Φ : PW} [Stable Φ] (x : DeltaD) (p : Option Addr) (cap : Nat) (hΦ : ∀ M w, Φ M w → Sl M w p x.row) (hlen : x.row.length ≤ 9223372036854775807) :
    GivesIn Φ Tryz.prog F.channel_Right_1 #[x.v p cap] (.bool (!rightR x.row)) := by
  refine gives_in (Bchannel_Right_1_run x.time p x.row.length cap x.n) fun W R => ?_
  exact fun _ w F cx => (RightRow_in (p := p) (cap := cap) (r := x.row) (hΦ := ⟨hΦ⟩)).use cx fun w cx => ⟨_, rfl, R, Φ, inferInstance, cx, fun w F cx => ⟨rfl, cx.left⟩⟩

/-! ### messages -/
structure MsgD where
  kind : Int
  node : Int
  inp : Int
  bucket : Int
  n : Int
  deltas : List DeltaD
instance : Gv MsgD := Gv.via (β := Int × Int × Int × Int × Int × List DeltaD) (fun x => (x.kind, x.node, x.inp, x.bucket, x.n, x.deltas)) (fun y => ⟨y.1, y.2.1, y.2.2.1, y.2.2.2.1, y.2.2.2.2.1, y.2.2.2.2.2⟩) (fun _ => rfl)

abbrev MsgD.cells (x : MsgD) (p : Option Addr) (c : Nat) : List Value := [.int .i64 x.kind, .int .i64 x.node, .int .i64 x.inp, .int .i64 x.bucket, .int .i64 x.n, .slice p x.deltas.length c]
abbrev MsgD.v (x : MsgD) (p : Option Addr) (c : Nat) : Value := .agg #[.int .i64 x.kind, .int .i64 x.node, .int .i64 x.inp, .int .i64 x.bucket, .int .i64 x.n, .slice p x.deltas.length c]

structure MsgD.Ok (x : MsgD) : Prop where
  kind : I64 x.kind
  node : I64 x.node
  inp : I64 x.inp
  bucket : I64 x.bucket
  n : I64 x.n

theorem msg_cells {M : List Nat} {w : World} {cs : List Value} {x : MsgD} (h : Gv.rep M w cs x) : ∃ p c, cs = x.cells p c ∧ x.deltas.length ≤ c ∧ c ≤ maxLen ∧ x.Ok ∧ Sl M w p x.deltas := by
  obtain ⟨_, _, rfl, ⟨rfl, h1⟩, _, _, rfl, ⟨rfl, h2⟩, _, _, rfl, ⟨rfl, h3⟩, _, _, rfl, ⟨rfl, h4⟩, _, _, rfl, ⟨rfl, h5⟩, p, c, rfl, h6, h7, h8⟩ := h
  exact ⟨p, c, rfl, h6, h7, ⟨h1, h2, h3, h4, h5⟩, h8⟩

theorem rep_msg {M : List Nat} {w : World} {x : MsgD} {p : Option Addr} {c : Nat} (h : x.Ok) (h6 : x.deltas.length ≤ c) (h7 : c ≤ maxLen) (h8 : Sl M w p x.deltas) : Gv.rep M w (x.cells p c) x :=
  ⟨[_], _, rfl, ⟨rfl, h.kind⟩, [_], _, rfl, ⟨rfl, h.node⟩, [_], _, rfl, ⟨rfl, h.inp⟩, [_], _, rfl, ⟨rfl, h.bucket⟩, [_], _, rfl, ⟨rfl, h.n⟩, p, c, rfl, h6, h7, h8⟩

theorem msg_sl {M : List Nat} {w : World} {x : MsgD} {p : Option Addr} {c : Nat} (h : Gv.rep M w (x.cells p c) x) : Sl M w p x.deltas := by
  obtain ⟨p', c', e, _, _, _, h1⟩ := msg_cells h
  simp only [MsgD.cells, List.cons.injEq, Value.slice.injEq] at e
  rw [e.2.2.2.2.2.1.1]
  exact h1

/-! ### channel.Right -/
abbrev numsM (m : MsgD) : List Int := [m.node, m.inp, m.bucket, max m.n 0]
def numBad (m : MsgD) (n : Int) : Bool := decide (n < 0) || decide (1099511627776 < n) || decide (m.n < -1)
def headM (m : MsgD) : Bool := !(numsM m).any (numBad m) && !(decide (m.kind < 0) || decide (3 ≤ m.kind) || decide (8 < (m.deltas.length : Int)) || decide (m.kind ≠ 0) && decide (0 < (m.deltas.length : Int)))
def rightM (m : MsgD) : Bool := headM m && consolidated m.deltas && !m.deltas.any fun d => !rightR d.row

theorem nums_at (m : MsgD) {i : Nat} (hi : i < 4) : ∃ n, (numsM m)[i]? = some n ∧ aggAt i [.int .i64 m.node, .int .i64 m.inp, .int .i64 m.bucket, .int .i64 (max m.n 0)] = some (.int .i64 n) := by
  match i, hi with
  | 0, _ => exact ⟨_, rfl, aggAt_eq _ _⟩
  | 1, _ => exact ⟨_, rfl, aggAt_eq _ _⟩
  | 2, _ => exact ⟨_, rfl, aggAt_eq _ _⟩
  | 3, _ => exact ⟨_, rfl, aggAt_eq _ _⟩

set_option maxHeartbeats 1000000 in
theorem Right_in {Φ : PW} [Stable Φ] (p : Option Addr) (cap : Nat) (m : MsgD) (hΦ : ∀ M w, Φ M w → Sl M w p m.deltas) (hlen : m.deltas.length ≤ 9223372036854775807) :
    GivesIn Φ Tryz.prog F.channel_Right #[m.v p cap] (.bool (rightM m)) := by
  refine .pinned hΦ fun b o cs hp => ?_
  refine gives_in (Bchannel_Right_run m.kind m.node m.inp m.bucket m.n p m.deltas.length cap) fun W R => ?_
  refine fun _ => exI_mk (fun n R' Φ' k => ∃ i : Nat, n = i ∧ i ≤ 4 ∧ R' = R ∧ Φ' = (fun M w => Φ M w ∧ Pin b o cs m.deltas M w) ∧ k = 4 - i ∧ ∀ j, j < i → ∀ n, (numsM m)[j]? = some n → numBad m n = false) ⟨⟨R, _, _, inferInstance, fun w F c => c, 0, rfl, Nat.zero_le _, rfl, rfl, rfl, fun j hj => by omega⟩, ?_⟩
  rintro n R1 Φ1 k _ ⟨i, rfl, hi, rfl, rfl, rfl, hok⟩
  refine Br.intro (fun hlt => ?_) (fun hge => fun w G cx => ?_)
  · have hlt : i < 4 := by have := of_decide_eq_true hlt; omega
    obtain ⟨n, hn, ha⟩ := nums_at m hlt
    refine ⟨n, ⟨by omega, by omega, by rw [Int.toNat_natCast, Nat.zero_add]; exact ha⟩, fun w F cx => Br.intro (fun hb => fun w F cx => ⟨?_, cx.left⟩) (fun hb => ⟨by unfold I64; omega, R1, _, 4 - (i + 1), inferInstance, fun w F c => c, ⟨i + 1, rfl, hlt, rfl, rfl, rfl, fun j hj n' hn' => ?_⟩, by omega⟩)⟩
    · have hb : numBad m n = true := hb
      have : (numsM m).any (numBad m) = true := List.any_eq_true.2 ⟨n, List.mem_of_getElem? hn, hb⟩
      unfold rightM headM
      rw [this]; rfl
    · rcases Nat.lt_or_ge j i with h | h
      · exact hok j h n' hn'
      · rw [show j = i by omega, hn] at hn'
        cases hn'
        exact hb
  · have hge : i = 4 := by have := of_decide_eq_false hge; omega
    subst hge
    have hall : (numsM m).any (numBad m) = false := by
      rw [List.any_eq_false]
      intro x hx
      obtain ⟨j, hj⟩ := List.getElem?_of_mem hx
      rw [hok j (List.getElem?_eq_some_iff.1 hj).1 x hj]
      simp
    refine Br.intro (fun h2 => fun w F cx => ⟨?_, cx.left⟩) (fun h2 => fun w G cx => ?_)
    · unfold rightM headM
      rw [h2]
      simp
    · have hhead : headM m = true := by unfold headM; rw [hall, h2]; rfl
      refine (Consolidated_pin (Φ := fun M w => Φ M w ∧ Pin b o cs m.deltas M w) p cap m.deltas b o cs hp (fun _ _ h => h.2) hlen).use cx fun w cx => ⟨_, rfl, R1, _, inferInstance, cx, Br.intro (fun h3 => fun w G cx => ?_) (fun h3 => fun w G cx => ⟨?_, cx.left⟩)⟩
      · refine (ContainsD_in (Φ := fun M w => Φ M w ∧ Pin b o cs m.deltas M w) p cap m.deltas b o cs F.channel_Right_1 (fun d => !rightR d.row) hp (fun _ _ h => h.2) hlen (by kernel_rfl) fun j hj r c e h1 h2 => ?_).use cx fun w cx => ⟨_, rfl, R1, _, inferInstance, cx, fun w G cx => ⟨?_, cx.left⟩⟩
        · exact Right1_in _ r c (fun M w h => pin_row h.2 hj e) (len_max h1 h2)
        · unfold rightM
          rw [hhead, h3]
          rfl
      · unfold rightM
        rw [h3, Bool.and_false]
        rfl

end Go.Proofs.YtfpgbejdlikpgaaGreatDoor
end

/-
  Formulas in an older shape (printed by a program for another seat; numbers of types turned).
-/
section
namespace Go.Proofs.YtfpgbejdlikpgaaGreatDoor
set_option linter.unusedVariables false
set_option linter.unusedSimpArgs false
set_option maxRecDepth 100000
open Go.Vc

def Ochannel_clone (m0 : Int) (m1 : Int) (m2 : Int) (m3 : Int) (m4 : Int) (m5P : Option Addr) (m5N m5C : Nat) (W : World) (R : List Own) (Φ : PW) (J : Value → World → Prop) : Prop :=
  ∀ (k0 b : Nat) (w1 : World) (R2 : List Own), Ctx W w1 (Own.blk k0 [Value.int IntKind.i64 m0, Value.int IntKind.i64 m1, Value.int IntKind.i64 m2, Value.int IntKind.i64 m3, Value.int
  IntKind.i64 m4, Value.slice m5P m5N m5C] 32 :: R ++ R2) Φ → ∃ (p3 : Option Addr), ∃ (k4 : Nat), ∃ (k5 : Nat), w1.cell? (Addr.mk k0 5 none) = some (Value.slice p3 k4 k5) ∧ ∀ (w6 : World) (R7
  : List Own), Ctx W w6 (Own.blk k0 [Value.int IntKind.i64 m0, Value.int IntKind.i64 m1, Value.int IntKind.i64 m2, Value.int IntKind.i64 m3, Value.int IntKind.i64 m4, Value.slice m5P m5N m5C]
  32 :: R ++ R7) Φ → Calls Tryz.prog F.slices_Clone_api_Delta_api_Delta #[Value.slice p3 k4 k5] w6 fun (e8 : Ending) (w9 : World) => ∃ (p10 : Option Addr), ∃ (k11 : Nat), ∃ (k12 : Nat), e8 =
  Ending.returned (Value.slice p10 k11 k12) ∧ ∃ (R13 : List Own), ∃ (Φ14 : PW), Stable Φ14 ∧ Ctx W w9 (R13 ++ R7) Φ14 ∧ ∀ (w15 : World) (R16 : List Own), Ctx W w15 (R13 ++ R16) Φ14 → CanWrite
  w15 k0 5 1 ∧ ∀ (w17 : World), w17 = w15.setCell (Addr.mk k0 5 none) (Value.slice p10 k11 k12) → ∃ (R18 : List Own), ∃ (Φ19 : PW), Stable Φ19 ∧ Ctx W w17 (R18 ++ R16) Φ19 ∧ ∀ (w20 : World)
  (R21 : List Own), Ctx W w20 (R18 ++ R21) Φ19 → ∃ (p22 : Option Addr), ∃ (k23 : Nat), ∃ (k24 : Nat), w20.cell? (Addr.mk k0 5 none) = some (Value.slice p22 k23 k24) ∧ exI fun (I25 : Int →
  List Own → PW → Nat → Prop) => (∃ (R26 : List Own), ∃ (Φ27 : PW), ∃ (k28 : Nat), Stable Φ27 ∧ (∀ (w29 : World) (R30 : List Own), Ctx W w29 (R18 ++ R30) Φ19 → Ctx W w29 (R26 ++ R30) Φ27) ∧
  I25 0 R26 Φ27 k28) ∧ ∀ (n31 : Int) (R32 : List Own) (I33 : List Nat → World → Prop) (k34 : Nat), Stable I33 → I25 n31 R32 I33 k34 → Br (decide (n31 < (↑k23 : Int))) (∃ (R35 : List Own), ∃
  (Φ36 : PW), Stable Φ36 ∧ (∀ (w37 : World) (R38 : List Own), Ctx W w37 (R32 ++ R38) I33 → Ctx W w37 (R35 ++ R38) Φ36) ∧ ∃ (p39 : Option Addr), ∃ (k40 : Nat), ∃ (k41 : Nat), (∀ (w42 : World)
  (R43 : List Own), Ctx W w42 (R35 ++ R43) Φ36 → ∃ (p44 : Option Addr), ∃ (k45 : Nat), ∃ (k46 : Nat), w42.cell? (Addr.mk k0 5 none) = some (Value.slice p44 k45 k46) ∧ Value.slice p44 k45 k46
  = Value.slice p39 k40 k41) ∧ ∃ (p47 : Option Addr), ∃ (k48 : Nat), ∃ (k49 : Nat), (∀ (w50 : World) (R51 : List Own), Ctx W w50 (R35 ++ R51) Φ36 → ∃ (p52 : Option Addr), ∃ (k53 : Nat), ∃
  (k54 : Nat), w50.cell? (Addr.mk k0 5 none) = some (Value.slice p52 k53 k54) ∧ Value.slice p52 k53 k54 = Value.slice p47 k48 k49) ∧ (0 ≤ n31 ∧ n31 < (↑k48 : Int)) ∧ ptrK none p47 fun (k55
  k56 : Nat) => ∀ (w57 : World) (R58 : List Own), Ctx W w57 (R32 ++ R58) I33 → ∃ (p59 : Option Addr), ∃ (k60 : Nat), ∃ (k61 : Nat), w57.cell? (Addr.mk k55 (k56 + n31.toNat * 3 + 1) none) =
  some (Value.slice p59 k60 k61) ∧ ∀ (w62 : World) (R63 : List Own), Ctx W w62 (R32 ++ R63) I33 → Calls Tryz.prog F.slices_Clone_api_Value_api_Value #[Value.slice p59 k60 k61] w62 fun (e64 :
  Ending) (w65 : World) => ∃ (p66 : Option Addr), ∃ (k67 : Nat), ∃ (k68 : Nat), e64 = Ending.returned (Value.slice p66 k67 k68) ∧ ∃ (R69 : List Own), ∃ (Φ70 : PW), Stable Φ70 ∧ Ctx W w65 (R69
  ++ R63) Φ70 ∧ (∀ (w71 : World) (R72 : List Own), Ctx W w71 (R69 ++ R72) Φ70 → Ctx W w71 (R35 ++ R72) Φ36) ∧ (0 ≤ n31 ∧ n31 < (↑k40 : Int)) ∧ ptrK none p39 fun (k73 k74 : Nat) => ∀ (w75 :
  World) (R76 : List Own), Ctx W w75 (R69 ++ R76) Φ70 → CanWrite w75 k73 (k74 + n31.toNat * 3 + 1) 1 ∧ ∀ (w77 : World), w77 = w75.setCell (Addr.mk k73 (k74 + n31.toNat * 3 + 1) none)
  (Value.slice p66 k67 k68) → ∃ (R78 : List Own), ∃ (Φ79 : PW), Stable Φ79 ∧ Ctx W w77 (R78 ++ R76) Φ79 ∧ (∀ (w80 : World) (R81 : List Own), Ctx W w80 (R78 ++ R81) Φ79 → Ctx W w80 (R35 ++
  R81) Φ36) ∧ I64 (n31 + 1) ∧ ∃ (R82 : List Own), ∃ (Φ83 : PW), ∃ (k84 : Nat), Stable Φ83 ∧ (∀ (w85 : World) (R86 : List Own), Ctx W w85 (R78 ++ R86) Φ79 → Ctx W w85 (R82 ++ R86) Φ83) ∧ I25
  (n31 + 1) R82 Φ83 k84 ∧ k84 < k34) (∀ (w87 : World) (R88 : List Own), Ctx W w87 (R32 ++ R88) I33 → ∃ (n89 : Int), ∃ (n90 : Int), ∃ (n91 : Int), ∃ (n92 : Int), ∃ (n93 : Int), ∃ (p94 : Option
  Addr), ∃ (k95 : Nat), ∃ (k96 : Nat), RowAt w87 k0 0 [Value.int IntKind.i64 n89, Value.int IntKind.i64 n90, Value.int IntKind.i64 n91, Value.int IntKind.i64 n92, Value.int IntKind.i64 n93,
  Value.slice p94 k95 k96] ∧ ∀ (w97 : World) (R98 : List Own), Ctx W w97 (R32 ++ R98) I33 → J (Value.agg #[Value.int IntKind.i64 n89, Value.int IntKind.i64 n90, Value.int IntKind.i64 n91,
  Value.int IntKind.i64 n92, Value.int IntKind.i64 n93, Value.slice p94 k95 k96]) w97)

theorem Ochannel_clone_run (m0 : Int) (m1 : Int) (m2 : Int) (m3 : Int) (m4 : Int) (m5P : Option Addr) (m5N m5C : Nat) {W w : World} {R : List Own} {Φ : PW} [Stable Φ] {J : Value → World → Prop} (c : Ctx W w R Φ) (h : Ochannel_clone m0 m1 m2 m3 m4 m5P m5N m5C W R Φ J) : Calls Tryz.prog F.channel_clone #[.agg #[.int .i64 m0, .int .i64 m1, .int .i64 m2, .int .i64 m3, .int .i64 m4, .slice m5P m5N m5C]] w fun e w' => ∃ v, e = .returned v ∧ J v w' :=
  vcFS_sound (H := { keep := some [1, 2, 3, 10, 11, 12], track := [2], stages := [(5, [.late [8] [0, 2, 3, 5, 1, 4, 6, 7, 8] [(9, [10, 11]), (12, [])]])], loops := [(3, [(11, .one (.int .i64))], [])] }) (by rw [show vcFS Tryz.prog W { keep := some [1, 2, 3, 10, 11, 12], track := [2], stages := [(5, [.late [8] [0, 2, 3, 5, 1, 4, 6, 7, 8] [(9, [10, 11]), (12, [])]])], loops := [(3, [(11, .one (.int .i64))], [])] } F.channel_clone #[.agg #[.int .i64 m0, .int .i64 m1, .int .i64 m2, .int .i64 m3, .int .i64 m4, .slice m5P m5N m5C]] R Φ J = Ochannel_clone m0 m1 m2 m3 m4 m5P m5N m5C W R Φ J by kernel_rfl]; exact h) c

def Ochannel_Channel_Send (cB cO : Nat) (m0 : Int) (m1 : Int) (m2 : Int) (m3 : Int) (m4 : Int) (m5P : Option Addr) (m5N m5C : Nat) (W : World) (R : List Own) (Φ : PW) (J : Value → World → Prop) : Prop :=
  ∀ (b : Nat) (w0 : World) (R1 : List Own), Ctx W w0 (R ++ R1) Φ → Calls Tryz.prog F.channel_Right #[Value.agg #[Value.int IntKind.i64 m0, Value.int IntKind.i64 m1, Value.int IntKind.i64 m2,
  Value.int IntKind.i64 m3, Value.int IntKind.i64 m4, Value.slice m5P m5N m5C]] w0 fun (e2 : Ending) (w3 : World) => ∃ (c4 : Bool), e2 = Ending.returned (Value.bool c4) ∧ ∃ (R5 : List Own), ∃
  (Φ6 : PW), Stable Φ6 ∧ Ctx W w3 (R5 ++ R1) Φ6 ∧ Br (!c4) (∀ (w7 : World) (R8 : List Own), Ctx W w7 (R5 ++ R8) Φ6 → J (Value.int IntKind.i64 1) w7) (∀ (w9 : World) (R10 : List Own), Ctx W w9
  (R5 ++ R10) Φ6 → ∃ (n11 : Int), w9.cell? (Addr.mk cB (cO + 25) none) = some (Value.int IntKind.i64 n11) ∧ Br (decide (n11 = 4)) (∀ (w12 : World) (R13 : List Own), Ctx W w12 (R5 ++ R13) Φ6 →
  J (Value.int IntKind.i64 27) w12) (∃ (R14 : List Own), ∃ (Φ15 : PW), Stable Φ15 ∧ (∀ (w16 : World) (R17 : List Own), Ctx W w16 (R5 ++ R17) Φ6 → Ctx W w16 (R14 ++ R17) Φ15) ∧ ∃ (n18 : Int),
  (∀ (w19 : World) (R20 : List Own), Ctx W w19 (R14 ++ R20) Φ15 → ∃ (n21 : Int), w19.cell? (Addr.mk cB (cO + 24) none) = some (Value.int IntKind.i64 n21) ∧ Value.int IntKind.i64 n21 =
  Value.int IntKind.i64 n18) ∧ ∃ (n22 : Int), (∀ (w23 : World) (R24 : List Own), Ctx W w23 (R14 ++ R24) Φ15 → ∃ (n25 : Int), w23.cell? (Addr.mk cB (cO + 25) none) = some (Value.int
  IntKind.i64 n25) ∧ Value.int IntKind.i64 n25 = Value.int IntKind.i64 n22) ∧ I64 (n18 + n22) ∧ ((4 : Int) = 0 → False) ∧ ∀ (w26 : World) (R27 : List Own), Ctx W w26 (R5 ++ R27) Φ6 → Calls
  Tryz.prog F.channel_clone #[Value.agg #[Value.int IntKind.i64 m0, Value.int IntKind.i64 m1, Value.int IntKind.i64 m2, Value.int IntKind.i64 m3, Value.int IntKind.i64 m4, Value.slice m5P m5N
  m5C]] w26 fun (e28 : Ending) (w29 : World) => ∃ (n30 : Int), ∃ (n31 : Int), ∃ (n32 : Int), ∃ (n33 : Int), ∃ (n34 : Int), ∃ (p35 : Option Addr), ∃ (k36 : Nat), ∃ (k37 : Nat), e28 =
  Ending.returned (Value.agg #[Value.int IntKind.i64 n30, Value.int IntKind.i64 n31, Value.int IntKind.i64 n32, Value.int IntKind.i64 n33, Value.int IntKind.i64 n34, Value.slice p35 k36 k37])
  ∧ ∃ (R38 : List Own), ∃ (Φ39 : PW), Stable Φ39 ∧ Ctx W w29 (R38 ++ R27) Φ39 ∧ (∀ (w40 : World) (R41 : List Own), Ctx W w40 (R38 ++ R41) Φ39 → Ctx W w40 (R14 ++ R41) Φ15) ∧ (0 ≤ (n18 +
  n22).tmod 4 ∧ (n18 + n22).tmod (4 : Int) < 4) ∧ ∀ (w42 : World) (R43 : List Own), Ctx W w42 (R38 ++ R43) Φ39 → CanWrite w42 cB (cO + ((n18 + n22).tmod 4).toNat * 6) 6 ∧ ∀ (w44 : World), w44
  = w42.setCells cB (cO + ((n18 + n22).tmod 4).toNat * 6) [Value.int IntKind.i64 n30, Value.int IntKind.i64 n31, Value.int IntKind.i64 n32, Value.int IntKind.i64 n33, Value.int IntKind.i64
  n34, Value.slice p35 k36 k37] → ∃ (R45 : List Own), ∃ (Φ46 : PW), Stable Φ46 ∧ Ctx W w44 (R45 ++ R43) Φ46 ∧ (∀ (w47 : World) (R48 : List Own), Ctx W w47 (R45 ++ R48) Φ46 → Ctx W w47 (R14 ++
  R48) Φ15) ∧ ∀ (w49 : World) (R50 : List Own), Ctx W w49 (R45 ++ R50) Φ46 → ∃ (n51 : Int), w49.cell? (Addr.mk cB (cO + 25) none) = some (Value.int IntKind.i64 n51) ∧ I64 (n51 + 1) ∧ ∀ (w52 :
  World) (R53 : List Own), Ctx W w52 (R45 ++ R53) Φ46 → CanWrite w52 cB (cO + 25) 1 ∧ ∀ (w54 : World), w54 = w52.setCell (Addr.mk cB (cO + 25) none) (Value.int IntKind.i64 (n51 + 1)) → ∃ (R55
  : List Own), ∃ (Φ56 : PW), Stable Φ56 ∧ Ctx W w54 (R55 ++ R53) Φ56 ∧ ∀ (w57 : World) (R58 : List Own), Ctx W w57 (R55 ++ R58) Φ56 → ∃ (n59 : Int), w57.cell? (Addr.mk cB (cO + 26) none) =
  some (Value.int IntKind.i64 n59) ∧ I64 (n59 + 1) ∧ ∀ (w60 : World) (R61 : List Own), Ctx W w60 (R55 ++ R61) Φ56 → CanWrite w60 cB (cO + 26) 1 ∧ ∀ (w62 : World), w62 = w60.setCell (Addr.mk
  cB (cO + 26) none) (Value.int IntKind.i64 (n59 + 1)) → ∃ (R63 : List Own), ∃ (Φ64 : PW), Stable Φ64 ∧ Ctx W w62 (R63 ++ R61) Φ64 ∧ ∀ (w65 : World) (R66 : List Own), Ctx W w65 (R63 ++ R66)
  Φ64 → J (Value.int IntKind.i64 0) w65))

theorem Ochannel_Channel_Send_run (cB cO : Nat) (m0 : Int) (m1 : Int) (m2 : Int) (m3 : Int) (m4 : Int) (m5P : Option Addr) (m5N m5C : Nat) {W w : World} {R : List Own} {Φ : PW} [Stable Φ] {J : Value → World → Prop} (c : Ctx W w R Φ) (h : Ochannel_Channel_Send cB cO m0 m1 m2 m3 m4 m5P m5N m5C W R Φ J) : Calls Tryz.prog F.channel_Channel_Send #[.pointer (some ⟨cB, cO, none⟩), .agg #[.int .i64 m0, .int .i64 m1, .int .i64 m2, .int .i64 m3, .int .i64 m4, .slice m5P m5N m5C]] w fun e w' => ∃ v, e = .returned v ∧ J v w' :=
  vcFS_sound (H := { keep := some [0, 3, 4, 7, 12], track := [3], stages := [(5, [.late [11] [0, 1, 5, 11, 2, 6, 13, 3, 7, 14, 4, 8, 9, 10] [(12, [15]), (16, [])]])] }) (by rw [show vcFS Tryz.prog W { keep := some [0, 3, 4, 7, 12], track := [3], stages := [(5, [.late [11] [0, 1, 5, 11, 2, 6, 13, 3, 7, 14, 4, 8, 9, 10] [(12, [15]), (16, [])]])] } F.channel_Channel_Send #[.pointer (some ⟨cB, cO, none⟩), .agg #[.int .i64 m0, .int .i64 m1, .int .i64 m2, .int .i64 m3, .int .i64 m4, .slice m5P m5N m5C]] R Φ J = Ochannel_Channel_Send cB cO m0 m1 m2 m3 m4 m5P m5N m5C W R Φ J by kernel_rfl]; exact h) c

def Ochannel_Channel_Take (cB cO : Nat) (W : World) (R : List Own) (Φ : PW) (J : Value → World → Prop) : Prop :=
  ∀ (b : Nat) (w0 : World) (R1 : List Own), Ctx W w0 (R ++ R1) Φ → Calls Tryz.prog F.channel_Channel_Head #[Value.pointer (some (Addr.mk cB cO none))] w0 fun (e2 : Ending) (w3 : World) => ∃
  (n4 : Int), ∃ (n5 : Int), ∃ (n6 : Int), ∃ (n7 : Int), ∃ (n8 : Int), ∃ (p9 : Option Addr), ∃ (k10 : Nat), ∃ (k11 : Nat), ∃ (c12 : Bool), e2 = Ending.returned (Value.tuple #[Value.agg
  #[Value.int IntKind.i64 n4, Value.int IntKind.i64 n5, Value.int IntKind.i64 n6, Value.int IntKind.i64 n7, Value.int IntKind.i64 n8, Value.slice p9 k10 k11], Value.bool c12]) ∧ ∃ (R13 : List
  Own), ∃ (Φ14 : PW), Stable Φ14 ∧ Ctx W w3 (R13 ++ R1) Φ14 ∧ ∀ (b : Nat), Br (!c12) (∀ (w15 : World) (R16 : List Own), Ctx W w15 (R13 ++ R16) Φ14 → J (Value.tuple #[Value.agg #[Value.int
  IntKind.i64 n4, Value.int IntKind.i64 n5, Value.int IntKind.i64 n6, Value.int IntKind.i64 n7, Value.int IntKind.i64 n8, Value.slice p9 k10 k11], Value.int IntKind.i64 4]) w15) (∃ (R17 :
  List Own), ∃ (Φ18 : PW), Stable Φ18 ∧ (∀ (w19 : World) (R20 : List Own), Ctx W w19 (R13 ++ R20) Φ14 → Ctx W w19 (R17 ++ R20) Φ18) ∧ ∀ (w21 : World) (R22 : List Own), Ctx W w21 (R13 ++ R22)
  Φ14 → ∃ (n23 : Int), w21.cell? (Addr.mk cB (cO + 24) none) = some (Value.int IntKind.i64 n23) ∧ (0 ≤ n23 ∧ n23 < 4) ∧ ∀ (w24 : World) (R25 : List Own), Ctx W w24 (R13 ++ R25) Φ14 → CanWrite
  w24 cB (cO + n23.toNat * 6) 6 ∧ ∀ (w26 : World), w26 = w24.setCells cB (cO + n23.toNat * 6) [Value.int IntKind.i64 0, Value.int IntKind.i64 0, Value.int IntKind.i64 0, Value.int IntKind.i64
  0, Value.int IntKind.i64 0, Value.slice none 0 0] → ∃ (R27 : List Own), ∃ (Φ28 : PW), Stable Φ28 ∧ Ctx W w26 (R27 ++ R25) Φ28 ∧ (∀ (w29 : World) (R30 : List Own), Ctx W w29 (R27 ++ R30) Φ28
  → Ctx W w29 (R17 ++ R30) Φ18) ∧ ∀ (w31 : World) (R32 : List Own), Ctx W w31 (R27 ++ R32) Φ28 → ∃ (n33 : Int), w31.cell? (Addr.mk cB (cO + 24) none) = some (Value.int IntKind.i64 n33) ∧ I64
  (n33 + 1) ∧ ((4 : Int) = 0 → False) ∧ ∀ (w34 : World) (R35 : List Own), Ctx W w34 (R27 ++ R35) Φ28 → CanWrite w34 cB (cO + 24) 1 ∧ ∀ (w36 : World), w36 = w34.setCell (Addr.mk cB (cO + 24)
  none) (Value.int IntKind.i64 ((n33 + 1).tmod 4)) → ∃ (R37 : List Own), ∃ (Φ38 : PW), Stable Φ38 ∧ Ctx W w36 (R37 ++ R35) Φ38 ∧ ∀ (w39 : World) (R40 : List Own), Ctx W w39 (R37 ++ R40) Φ38 →
  ∃ (n41 : Int), w39.cell? (Addr.mk cB (cO + 25) none) = some (Value.int IntKind.i64 n41) ∧ I64 (n41 - 1) ∧ ∀ (w42 : World) (R43 : List Own), Ctx W w42 (R37 ++ R43) Φ38 → CanWrite w42 cB (cO
  + 25) 1 ∧ ∀ (w44 : World), w44 = w42.setCell (Addr.mk cB (cO + 25) none) (Value.int IntKind.i64 (n41 - 1)) → ∃ (R45 : List Own), ∃ (Φ46 : PW), Stable Φ46 ∧ Ctx W w44 (R45 ++ R43) Φ46 ∧ ∀
  (w47 : World) (R48 : List Own), Ctx W w47 (R45 ++ R48) Φ46 → J (Value.tuple #[Value.agg #[Value.int IntKind.i64 n4, Value.int IntKind.i64 n5, Value.int IntKind.i64 n6, Value.int IntKind.i64
  n7, Value.int IntKind.i64 n8, Value.slice p9 k10 k11], Value.int IntKind.i64 0]) w47)

theorem Ochannel_Channel_Take_run (cB cO : Nat) {W w : World} {R : List Own} {Φ : PW} [Stable Φ] {J : Value → World → Prop} (c : Ctx W w R Φ) (h : Ochannel_Channel_Take cB cO W R Φ J) : Calls Tryz.prog F.channel_Channel_Take #[.pointer (some ⟨cB, cO, none⟩)] w fun e w' => ∃ v, e = .returned v ∧ J v w' :=
  vcFS_sound (H := { keep := some [0, 2, 3, 4, 5, 12], track := [2, 4], stages := [(4, [.late [0, 1, 5, 2, 3, 4, 8] [0, 1, 5, 2, 6, 3, 7, 4, 8] [(9, [])]])] }) (by rw [show vcFS Tryz.prog W { keep := some [0, 2, 3, 4, 5, 12], track := [2, 4], stages := [(4, [.late [0, 1, 5, 2, 3, 4, 8] [0, 1, 5, 2, 6, 3, 7, 4, 8] [(9, [])]])] } F.channel_Channel_Take #[.pointer (some ⟨cB, cO, none⟩)] R Φ J = Ochannel_Channel_Take cB cO W R Φ J by kernel_rfl]; exact h) c

end Go.Proofs.YtfpgbejdlikpgaaGreatDoor
end

/-
  channel.clone, walked. (Out of r36Vc, over the delta family.)
-/
section
set_option linter.unusedVariables false
set_option linter.unusedSimpArgs false
namespace Go.Proofs.YtfpgbejdlikpgaaGreatDoor
open Go.Vc

theorem vals_any {M M' : List Nat} {w w' : World} {cs : List Value} {l : List ValD} (h : Elems M w cs l) : Elems M' w' cs l := ⟨h.1, fun j hj => h.2 j hj⟩

/-! ### clone -/
/-- a copy of deltas: the cells, and the rows that are owned with it -/
structure Fresh (cs : List Value) (rows : List Own) (l : List DeltaD) : Prop where
  len : cs.length = l.length * 3
  go : ∀ j, (hj : j < l.length) → ∃ q c vc, (cs.drop (j * 3)).take 3 = l[j].cells q c ∧ l[j].row.length ≤ c ∧ c ≤ maxLen ∧ I64 l[j].time ∧ I64 l[j].n ∧ Own.buf q l[j].row.length c vc 83 3 ∈ rows ∧ ∀ M w, Elems M w vc l[j].row

theorem Fresh.sl {W w : World} {S : List Own} {Φ : PW} [Stable Φ] {p : Option Addr} {n cap : Nat} {cs : List Value} {rows : List Own} {l : List DeltaD} (hf : Fresh cs rows l) (c : Ctx W w (.buf p n cap cs 62 3 :: rows ++ S) Φ) :
    Ctx W w S Φ ∧ Sl (dom S) w p l ∧ n = l.length ∧ n ≤ cap ∧ cap ≤ maxLen := by
  have c1 : Ctx W w (rows ++ (.buf p n cap cs 62 3 :: S)) Φ := c.perm (by rw [List.cons_append]; exact List.perm_middle.symm)
  have c2 : Ctx W w (.buf p n cap cs 62 3 :: S) Φ := c1.right
  refine Ctx.freeze (α := DeltaD) c2 ⟨hf.len, fun j hj => ?_⟩
  obtain ⟨q, c, vc, h1, h2, h3, h4, h5, h6, h7⟩ := hf.go j hj
  rw [show (Gv.ty DeltaD).size = 3 from rfl, h1]
  exact rep_delta h2 h3 h4 h5 (c1.letGo (α := ValD) h6 (h7 _ _))

/-- the function hands back a copy of deltas, inside mk -/
structure GivesCopy (Φ : PW) (P : Program) (f : FuncId) (args : Array Value) (l : List DeltaD) (mk : Value → Value) : Prop where
  go : ∀ (W w : World) (S : List Own), Ctx W w S Φ → Calls P f args w fun e w' => ∃ p cap cs rows, e = .returned (mk (.slice p l.length cap)) ∧ Fresh cs rows l ∧ Ctx W w' (.buf p l.length cap cs 62 3 :: rows ++ S) Φ

theorem gives_copy {Φ : PW} [Stable Φ] {P : Program} {f : FuncId} {args : Array Value} {l : List DeltaD} {mk : Value → Value} {B : World → List Own → PW → (Value → World → Prop) → Prop}
    (run : ∀ {W w : World} {R : List Own} {Φ : PW} [Stable Φ] {J : Value → World → Prop}, Ctx W w R Φ → B W R Φ J → Calls P f args w fun e w' => ∃ v, e = .returned v ∧ J v w')
    (h : ∀ (W : World) (R : List Own), B W R Φ fun u w' => ∃ p cap cs rows, u = mk (.slice p l.length cap) ∧ Fresh cs rows l ∧ Ctx W w' (.buf p l.length cap cs 62 3 :: rows ++ R) Φ) : GivesCopy Φ P f args l mk :=
  ⟨fun W w S c => calls_of (run c (h W S)) fun u w' ⟨p, cap, cs, rows, h1, h2⟩ => ⟨p, cap, cs, rows, by rw [h1], h2⟩⟩

theorem GivesCopy.use {Φ : PW} {P : Program} {f : FuncId} {args : Array Value} {l : List DeltaD} {mk : Value → Value} (h : GivesCopy Φ P f args l mk) {W w : World} {S : List Own} (c : Ctx W w S Φ) {K : Ending → World → Prop}
    (hk : ∀ p cap cs rows w', Fresh cs rows l → Ctx W w' (.buf p l.length cap cs 62 3 :: rows ++ S) Φ → K (.returned (mk (.slice p l.length cap))) w') : Calls P f args w K :=
  (h.go W w S c).mono fun e w' ⟨p, cap, cs, rows, he, hf, c'⟩ => by subst he; exact hk p cap cs rows w' hf c'

theorem GivesCopy.gsl {Φ : PW} [Stable Φ] {P : Program} {f : FuncId} {args : Array Value} {l : List DeltaD} {mk : Value → Value} (h : GivesCopy Φ P f args l mk) : GivesSl Φ P f args l mk :=
  ⟨fun W w S c => (h.go W w S c).mono fun e w' ⟨p, cap, cs, rows, he, hf, c'⟩ => by
    obtain ⟨c2, h1, _, h2, h3⟩ := hf.sl c'
    exact ⟨p, cap, he, h2, h3, c2.add h1⟩⟩

theorem GivesCopy.there {Φ : PW} {P : Program} {f : FuncId} {args : Array Value} {l : List DeltaD} {mk : Value → Value} {p : Option Addr} {n : Nat} (hΦ : ∀ M w, Φ M w → There p n) (h : There p n → GivesCopy Φ P f args l mk) : GivesCopy Φ P f args l mk :=
  ⟨fun W w S c => (h (hΦ _ _ c.phi)).go W w S c⟩

theorem take3 {cs : List Value} {o : Nat} {a b c : Value} : (cs.drop o).take 3 = [a, b, c] ↔ (cs[o]? = some a ∧ cs[o + 1]? = some b ∧ cs[o + 2]? = some c) := by
  constructor
  · intro h
    have key : ∀ i, i < 3 → cs[o + i]? = [a, b, c][i]? := by
      intro i hi
      rw [← h, List.getElem?_take_of_lt hi, List.getElem?_drop]
    exact ⟨key 0 (by omega), key 1 (by omega), key 2 (by omega)⟩
  · rintro ⟨h1, h2, h3⟩
    have hlt : o + 2 < cs.length := (List.getElem?_eq_some_iff.1 h3).1
    apply List.ext_getElem?
    intro i
    match i with
    | 0 => rw [List.getElem?_take_of_lt (by omega), List.getElem?_drop]; exact h1
    | 1 => rw [List.getElem?_take_of_lt (by omega), List.getElem?_drop]; exact h2
    | 2 => rw [List.getElem?_take_of_lt (by omega), List.getElem?_drop]; exact h3
    | i + 3 => rw [List.getElem?_eq_none (by simp; omega), List.getElem?_eq_none (by simp)]

/-- so far, i rows are copied -/
structure Half (cs news : List Value) (rows : List Own) (l : List DeltaD) (i : Nat) : Prop where
  len : cs.length = l.length * 3
  done : ∀ j, (hj : j < l.length) → j < i → ∃ q c vc, (cs.drop (j * 3)).take 3 = l[j].cells q c ∧ l[j].row.length ≤ c ∧ c ≤ maxLen ∧ I64 l[j].time ∧ I64 l[j].n ∧ Own.buf q l[j].row.length c vc 83 3 ∈ rows ∧ ∀ M w, Elems M w vc l[j].row
  todo : ∀ j, j < l.length → i ≤ j → (cs.drop (j * 3)).take 3 = (news.drop (j * 3)).take 3

theorem Half.step {cs news : List Value} {rows : List Own} {l : List DeltaD} {i : Nat} (h : Half cs news rows l i) (hi : i < l.length) {q0 q : Option Addr} {c0 c : Nat} {vc : List Value} (hn : (news.drop (i * 3)).take 3 = l[i].cells q0 c0)
    (h1 : l[i].row.length ≤ c) (h2 : c ≤ maxLen) (h3 : I64 l[i].time) (h4 : I64 l[i].n) (h5 : ∀ M w, Elems M w vc l[i].row) :
    Half (setL cs (i * 3 + 1) [.slice q l[i].row.length c]) news (.buf q l[i].row.length c vc 83 3 :: rows) l (i + 1) := by
  have hlen := h.len
  have hset : setL cs (i * 3 + 1) [.slice q l[i].row.length c] = cs.set (i * 3 + 1) (.slice q l[i].row.length c) := rfl
  have hoth : ∀ j, j < l.length → j ≠ i → ((cs.set (i * 3 + 1) (.slice q l[i].row.length c)).drop (j * 3)).take 3 = (cs.drop (j * 3)).take 3 := by
    intro j hj hne
    apply List.ext_getElem?
    intro k
    rcases Nat.lt_or_ge k 3 with hk | hk
    · rw [List.getElem?_take_of_lt hk, List.getElem?_drop, List.getElem?_take_of_lt hk, List.getElem?_drop, List.getElem?_set_ne (by omega)]
    · rw [List.getElem?_eq_none (by simp; omega), List.getElem?_eq_none (by simp; omega)]
  rw [hset]
  refine ⟨by simp [hlen], fun j hj hji => ?_, fun j hj hji => ?_⟩
  · rcases Nat.lt_or_ge j i with hlt | hge
    · obtain ⟨q', c', vc', g1, g2, g3, g4, g5, g6, g7⟩ := h.done j hj hlt
      exact ⟨q', c', vc', by rw [hoth j hj (by omega), g1], g2, g3, g4, g5, List.mem_cons_of_mem _ g6, g7⟩
    · have : j = i := by omega
      subst this
      refine ⟨q, c, vc, ?_, h1, h2, h3, h4, List.mem_cons_self, h5⟩
      obtain ⟨e1, e2, e3⟩ := take3.1 ((h.todo j hj (Nat.le_refl _)).trans hn)
      have hlt : j * 3 + 2 < cs.length := (List.getElem?_eq_some_iff.1 e3).1
      exact take3.2 ⟨by rw [List.getElem?_set_ne (by omega)]; exact e1, by rw [List.getElem?_set_self (by omega)], by rw [List.getElem?_set_ne (by omega)]; exact e3⟩
  · rw [hoth j hj (by omega)]
    exact h.todo j hj (by omega)

theorem elems_delta {M : List Nat} {w : World} {cs : List Value} {l : List DeltaD} (h : Elems M w cs l) {j : Nat} (hj : j < l.length) : ∃ q c, (cs.drop (j * 3)).take 3 = l[j].cells q c ∧ l[j].row.length ≤ c ∧ c ≤ maxLen ∧ I64 l[j].time ∧ I64 l[j].n ∧ Sl M w q l[j].row := by
  have := h.2 j hj
  rw [show (Gv.ty DeltaD).size = 3 from rfl] at this
  exact delta_cells this

theorem elems_row {M : List Nat} {w : World} {cs : List Value} {l : List DeltaD} (h : Elems M w cs l) {j : Nat} (hj : j < l.length) {q : Option Addr} {c : Nat} (e : (cs.drop (j * 3)).take 3 = l[j].cells q c) : Sl M w q l[j].row := by
  have := h.2 j hj
  rw [show (Gv.ty DeltaD).size = 3 from rfl, e] at this
  exact delta_row this

set_option maxHeartbeats 1000000 in
theorem clone_copy {Φ : PW} [Stable Φ] (p : Option Addr) (cap : Nat) (m : MsgD) (hΦ : ∀ M w, Φ M w → Sl M w p m.deltas) (hlen : m.deltas.length < 100000000) (hrows : ∀ x ∈ m.deltas, x.row.length < 100000000) :
    GivesCopy Φ Tryz.prog F.channel_clone #[m.v p cap] m.deltas (fun s => .agg #[.int .i64 m.kind, .int .i64 m.node, .int .i64 m.inp, .int .i64 m.bucket, .int .i64 m.n, s]) := by
  refine gives_copy (Ochannel_clone_run m.kind m.node m.inp m.bucket m.n p m.deltas.length cap) fun W R => ?_
  intro k0 _ w G cx
  refine ⟨p, m.deltas.length, cap, cx.get 0 rfl rfl, fun w G cx => ?_⟩
  refine (CloneD_in p cap m.deltas hΦ hlen).use cx fun p1 cap1 news w cx => ⟨p1, m.deltas.length, cap1, rfl, ?_⟩
  have hnews : ∀ j, (hj : j < m.deltas.length) → ∃ q c, (news.drop (j * 3)).take 3 = m.deltas[j].cells q c ∧ m.deltas[j].row.length ≤ c ∧ c ≤ maxLen ∧ I64 m.deltas[j].time ∧ I64 m.deltas[j].n := fun j hj => by
    obtain ⟨q, c, h1, h2, h3, h4, h5, _⟩ := elems_delta cx.phi.2 hj
    exact ⟨q, c, h1, h2, h3, h4, h5⟩
  have hnl : news.length = m.deltas.length * 3 := cx.phi.2.1
  refine ⟨.blk k0 (m.cells p cap) 32 :: .buf p1 m.deltas.length cap1 news 62 3 :: R, fun M w => Φ M w ∧ Elems M w news m.deltas, inferInstance, cx.swap, fun w G cx => ⟨cx.can 0 rfl (by simp), fun w' hw' => ?_⟩⟩
  refine ⟨.blk k0 (m.cells p1 cap1) 32 :: .buf p1 m.deltas.length cap1 news 62 3 :: R, fun M w => Φ M w ∧ Elems M w news m.deltas, inferInstance, cx.put 0 hw' rfl, fun w G cx => ⟨p1, m.deltas.length, cap1, cx.get 0 rfl rfl, ?_⟩⟩
  refine exI_mk (fun n R' Φ' k => ∃ (i : Nat) (cs : List Value) (rows : List Own), n = i ∧ i ≤ m.deltas.length ∧ R' = .blk k0 (m.cells p1 cap1) 32 :: .buf p1 m.deltas.length cap1 cs 62 3 :: rows ++ R ∧ Φ' = (fun M w => Φ M w ∧ Elems M w news m.deltas) ∧ k = m.deltas.length - i ∧ Half cs news rows m.deltas i)
    ⟨⟨_, _, _, inferInstance, fun w F c => c, 0, news, [], rfl, Nat.zero_le _, rfl, rfl, rfl, hnl, fun j _ h => by omega, fun j _ _ => rfl⟩, ?_⟩
  rintro n R1 Φ1 k _ ⟨i, cs, rows, rfl, hi, rfl, rfl, rfl, hh⟩
  refine Br.intro (fun hlt => ?_) (fun hge => fun w G cx => ⟨m.kind, m.node, m.inp, m.bucket, m.n, p1, m.deltas.length, cap1, cx.row0 0 rfl, fun w G cx => ⟨p1, cap1, cs, rows, rfl, ?_, ?_⟩⟩)
  · have hlt : i < m.deltas.length := by simpa using hlt
    obtain ⟨q0, c0, hq0, hq1, hq2, hq3, hq4⟩ := hnews i hlt
    have hcs := take3.1 ((hh.todo i hlt (Nat.le_refl _)).trans hq0)
    have h0 : 0 < cs.length := by rw [hh.len]; omega
    refine ⟨[.blk k0 (m.cells p1 cap1) 32], fun _ _ => True, inferInstance, fun w G cx => (cx.weak fun _ _ _ => trivial).sub (List.Sublist.cons_cons _ (List.sublist_append_right _ _)),
      p1, m.deltas.length, cap1, fun w G cx => ⟨p1, m.deltas.length, cap1, cx.get 0 rfl rfl, rfl⟩, p1, m.deltas.length, cap1, fun w G cx => ⟨p1, m.deltas.length, cap1, cx.get 0 rfl rfl, rfl⟩, by omega, ?_⟩
    by_cases hp1 : ∃ b1, p1 = some ⟨b1, 0, none⟩
    case neg =>
      exfalso
      obtain ⟨b1, hb1, _⟩ := cx.bufCell 1 rfl (by rw [hnl]; omega)
      exact hp1 ⟨b1, hb1⟩
    obtain ⟨b1, hb1⟩ := hp1
    refine ptrK_intro b1 0 hb1 fun w G cx => ⟨q0, m.deltas[i].row.length, c0, ?_, fun w G cx => ?_⟩
    · obtain ⟨b', hb', _, hc⟩ := cx.bufCell 1 rfl h0
      rw [hb1] at hb'
      cases hb'
      rw [Int.toNat_natCast, Nat.zero_add]
      exact (hc _ _ hcs.2.1).1
    refine (CloneV_in (Φ := fun M w => Φ M w ∧ Elems M w news m.deltas) q0 c0 m.deltas[i].row (fun M w h => elems_row h.2 hlt hq0) (hrows _ (List.getElem_mem _))).use cx fun p2 cap2 vc w cx => ⟨p2, m.deltas[i].row.length, cap2, rfl, ?_⟩
    have hvc : ∀ M w, Elems M w vc m.deltas[i].row := fun M w => vals_any cx.phi.2
    obtain ⟨_, hcap1, hcap2⟩ := cx.bufLen 0 rfl
    refine ⟨.blk k0 (m.cells p1 cap1) 32 :: .buf p1 m.deltas.length cap1 cs 62 3 :: (.buf p2 m.deltas[i].row.length cap2 vc 83 3 :: rows) ++ R, fun M w => Φ M w ∧ Elems M w news m.deltas, inferInstance, ?_, ?_, by omega, ptrK_intro b1 0 hb1 fun w G cx => ⟨?_, fun w' hw' => ?_⟩⟩
    · exact (cx.fst).perm (List.perm_middle (l₁ := [Own.blk k0 (m.cells p1 cap1) 32, Own.buf p1 m.deltas.length cap1 cs 62 3])).symm
    · exact fun w G cx => (cx.weak fun _ _ _ => trivial).sub (List.Sublist.cons_cons _ (List.sublist_append_right _ _))
    · rw [Int.toNat_natCast, Nat.zero_add]
      refine cx.bufCan 1 rfl hb1 ?_
      have := (List.getElem?_eq_some_iff.1 hcs.2.1).1
      omega
    · rw [Int.toNat_natCast, Nat.zero_add] at hw'
      have hlt1 := (List.getElem?_eq_some_iff.1 hcs.2.1).1
      have cx' := cx.bufPuts 1 rfl hb1 h0 (o := i * 3 + 1) (vs := [.slice p2 m.deltas[i].row.length cap2]) (by simp only [List.length_singleton]; omega) hw'
      exact ⟨.blk k0 (m.cells p1 cap1) 32 :: .buf p1 m.deltas.length cap1 (setL cs (i * 3 + 1) [.slice p2 m.deltas[i].row.length cap2]) 62 3 :: (.buf p2 m.deltas[i].row.length cap2 vc 83 3 :: rows) ++ R, fun M w => Φ M w ∧ Elems M w news m.deltas, inferInstance, cx',
        fun w G cx => (cx.weak fun _ _ _ => trivial).sub (List.Sublist.cons_cons _ (List.sublist_append_right _ _)), by unfold I64; omega, _, _, m.deltas.length - (i + 1), inferInstance, fun w G cx => cx, ⟨i + 1, _, _, rfl, hlt, rfl, rfl, rfl, hh.step hlt hq0 hcap1 hcap2 hq3 hq4 hvc⟩, by omega⟩
  · have hge : i = m.deltas.length := Nat.le_antisymm hi (by simpa using hge)
    exact ⟨hh.len, fun j hj => hh.done j hj (by omega)⟩
  · exact cx.left.drop1.fst

end Go.Proofs.YtfpgbejdlikpgaaGreatDoor
end

/-
  The walks of the channel's methods.
-/
section
set_option linter.unusedVariables false
set_option linter.unusedSimpArgs false
namespace Go.Proofs.YtfpgbejdlikpgaaGreatDoor
open Go.Vc

def MsgD.Small (m : MsgD) : Prop := m.deltas.length < 100000000 ∧ ∀ x ∈ m.deltas, x.row.length < 100000000

theorem right_small {m : MsgD} (h : rightM m = true) : m.Small := by
  unfold rightM headM at h
  simp only [Bool.and_eq_true, Bool.not_eq_true', Bool.or_eq_false_iff, decide_eq_false_iff_not] at h
  obtain ⟨⟨⟨_, ⟨⟨_, h1⟩, _⟩⟩, _⟩, h2⟩ := h
  refine ⟨by omega, fun x hx => ?_⟩
  rw [List.any_eq_false] at h2
  have := h2 x hx
  simp only [Bool.not_eq_true', Bool.not_eq_false] at this
  unfold rightR at this
  simp only [Bool.and_eq_true, decide_eq_true_eq] at this
  have := this.1
  omega

/-- the cells of a channel: the messages q stand in it, from first on -/
structure ChanC (cs : List Value) (q : List MsgD) (first : Nat) (sent : Nat) : Prop where
  len : cs.length = 27
  lt4 : first < 4
  count : q.length ≤ 4
  c24 : cs[24]? = some (.int .i64 first)
  c25 : cs[25]? = some (.int .i64 q.length)
  c26 : cs[26]? = some (.int .i64 sent)
  small : ∀ m ∈ q, m.Small
  slots : ∀ k, k < 4 → ∃ n1 n2 n3 n4 n5 p n c, (cs.drop (k * 6)).take 6 = [.int .i64 n1, .int .i64 n2, .int .i64 n3, .int .i64 n4, .int .i64 n5, .slice p n c]

def ChanS (cs : List Value) (q : List MsgD) (first : Nat) (M : List Nat) (w : World) : Prop := ∀ k, (hk : k < q.length) → Gv.rep M w ((cs.drop ((first + k) % 4 * 6)).take 6) q[k]

instance chanS_stable (cs : List Value) (q : List MsgD) (first : Nat) : Stable (fun M w => ChanS cs q first M w) := ⟨fun hs h k hk => Gv.stable hs (h k hk)⟩

abbrev chan0 : List Value := [.int .i64 0, .int .i64 0, .int .i64 0, .int .i64 0, .int .i64 0, .slice none 0 0, .int .i64 0, .int .i64 0, .int .i64 0, .int .i64 0, .int .i64 0, .slice none 0 0, .int .i64 0, .int .i64 0, .int .i64 0, .int .i64 0, .int .i64 0, .slice none 0 0,
  .int .i64 0, .int .i64 0, .int .i64 0, .int .i64 0, .int .i64 0, .slice none 0 0, .int .i64 0, .int .i64 0, .int .i64 0]
abbrev msg0 : MsgD := ⟨0, 0, 0, 0, 0, []⟩

theorem chan0_c : ChanC chan0 [] 0 0 := ⟨rfl, by omega, by simp, rfl, rfl, rfl, by simp, fun k hk => by
  have h4 : k = 0 ∨ k = 1 ∨ k = 2 ∨ k = 3 := by omega
  rcases h4 with rfl | rfl | rfl | rfl <;> exact ⟨_, _, _, _, _, _, _, _, rfl⟩⟩
theorem chan0_s (M : List Nat) (w : World) : ChanS chan0 [] 0 M w := fun k hk => by simp at hk

theorem take6 {cs ds : List Value} {o : Nat} (h : ∀ i, i < 6 → cs[o + i]? = ds[o + i]?) : (cs.drop o).take 6 = (ds.drop o).take 6 := by
  apply List.ext_getElem?
  intro i
  rcases Nat.lt_or_ge i 6 with hi | hi
  · rw [List.getElem?_take_of_lt hi, List.getElem?_drop, List.getElem?_take_of_lt hi, List.getElem?_drop, h i hi]
  · rw [List.getElem?_eq_none (by simp; omega), List.getElem?_eq_none (by simp; omega)]

theorem take6_in {cs vs : List Value} {o : Nat} (hv : vs.length = 6) (hl : o + 6 ≤ cs.length) : ((setL cs o vs).drop o).take 6 = vs := by
  apply List.ext_getElem?
  intro i
  rcases Nat.lt_or_ge i 6 with hi | hi
  · rw [List.getElem?_take_of_lt hi, List.getElem?_drop, setL_in _ _ _ _ (by omega) (by omega)]
  · rw [List.getElem?_eq_none (by simp; omega), List.getElem?_eq_none (by omega)]

/-! ### what is taken -/
abbrev taken (cs : List Value) (first count : Nat) : List Value := ((setL cs (first * 6) [.int .i64 0, .int .i64 0, .int .i64 0, .int .i64 0, .int .i64 0, .slice none 0 0]).set 24 (.int .i64 ((first + 1) % 4 : Nat))).set 25 (.int .i64 (count : Nat))

theorem ChanC.take {cs : List Value} {m : MsgD} {q : List MsgD} {first sent : Nat} (h : ChanC cs (m :: q) first sent) : ChanC (taken cs first q.length) q ((first + 1) % 4) sent := by
  have hl := h.len
  have hf := h.lt4
  have hc := h.count
  have hsl : (setL cs (first * 6) [.int .i64 0, .int .i64 0, .int .i64 0, .int .i64 0, .int .i64 0, .slice none 0 0]).length = 27 := by rw [setL_len, hl]
  refine ⟨?_, Nat.mod_lt _ (by omega), ?_, ?_, ?_, ?_, fun m hm => h.small m (List.mem_cons_of_mem _ hm), fun k hk => ?_⟩
  · rw [List.length_set, List.length_set, hsl]
  · simp only [List.length_cons] at hc; omega
  · rw [List.getElem?_set_ne (by omega), List.getElem?_set_self (by omega)]
  · rw [List.getElem?_set_self (by rw [List.length_set]; omega)]
  · rw [List.getElem?_set_ne (by omega), List.getElem?_set_ne (by omega), setL_get _ _ _ _ (by right; simp only [List.length_cons, List.length_nil]; omega), h.c26]
  · by_cases e : k = first
    · subst e
      refine ⟨0, 0, 0, 0, 0, none, 0, 0, ?_⟩
      rw [take6 (ds := setL cs (k * 6) [.int .i64 0, .int .i64 0, .int .i64 0, .int .i64 0, .int .i64 0, .slice none 0 0]) (fun i hi => by rw [List.getElem?_set_ne (by omega), List.getElem?_set_ne (by omega)]), take6_in rfl (by omega)]
    · obtain ⟨n1, n2, n3, n4, n5, p, n, c, he⟩ := h.slots k hk
      refine ⟨n1, n2, n3, n4, n5, p, n, c, ?_⟩
      rw [take6 (ds := cs) (fun i hi => by rw [List.getElem?_set_ne (by omega), List.getElem?_set_ne (by omega), setL_get _ _ _ _ (by simp only [List.length_cons, List.length_nil]; omega)])]
      exact he

theorem ChanS.take {cs : List Value} {m : MsgD} {q : List MsgD} {first : Nat} (hc : q.length < 4) (hf : first < 4) {M : List Nat} {w : World} (h : ChanS cs (m :: q) first M w) : ChanS (taken cs first q.length) q ((first + 1) % 4) M w := by
  intro k hk
  have := h (k + 1) (by simpa using hk)
  rw [List.getElem_cons_succ] at this
  have e : (first + 1) % 4 + k = (first + 1) % 4 + k := rfl
  have hix : ((first + 1) % 4 + k) % 4 = (first + (k + 1)) % 4 := by omega
  rw [hix]
  have hne : (first + (k + 1)) % 4 ≠ first := by omega
  have hlt : (first + (k + 1)) % 4 < 4 := Nat.mod_lt _ (by omega)
  generalize (first + (k + 1)) % 4 = z at *
  rw [take6 (ds := cs)]
  · exact this
  · intro i hi
    rw [List.getElem?_set_ne (by omega), List.getElem?_set_ne (by omega), setL_get _ _ _ _ (by simp only [List.length_cons, List.length_nil]; omega)]

/-! ### what is sent -/
abbrev sentTo (cs : List Value) (first count sent : Nat) (vs : List Value) : List Value := ((setL cs ((first + count) % 4 * 6) vs).set 25 (.int .i64 (count + 1 : Nat))).set 26 (.int .i64 (sent + 1 : Nat))

theorem ChanC.send {cs : List Value} {m : MsgD} {p : Option Addr} {c : Nat} {q : List MsgD} {first sent : Nat} (h : ChanC cs q first sent) (hq : q.length < 4) (hv : (m.cells p c).length = 6) (hm : m.Small) : ChanC (sentTo cs first q.length sent (m.cells p c)) (q ++ [m]) first (sent + 1) := by
  have hl := h.len
  have hf := h.lt4
  have hsl : (setL cs ((first + q.length) % 4 * 6) (m.cells p c)).length = 27 := by rw [setL_len, hl]
  have hlt : (first + q.length) % 4 < 4 := Nat.mod_lt _ (by omega)
  refine ⟨?_, hf, ?_, ?_, ?_, ?_, fun x hx => ?_, fun k hk => ?_⟩
  · rw [List.length_set, List.length_set, hsl]
  · rw [List.length_append, List.length_singleton]; omega
  · rw [List.getElem?_set_ne (by omega), List.getElem?_set_ne (by omega), setL_get _ _ _ _ (by right; omega), h.c24]
  · rw [List.getElem?_set_ne (by omega), List.getElem?_set_self (by omega), List.length_append, List.length_singleton]
  · rw [List.getElem?_set_self (by rw [List.length_set]; omega)]
  · rcases List.mem_append.1 hx with hx | hx
    · exact h.small x hx
    · rw [List.mem_singleton.1 hx]; exact hm
  · unfold sentTo
    by_cases e : k = (first + q.length) % 4
    · subst e
      generalize (first + q.length) % 4 = y at *
      refine ⟨_, _, _, _, _, _, _, _, (?_ : _ = m.cells p c)⟩
      rw [take6 (ds := setL cs (y * 6) (m.cells p c)) (fun i hi => by rw [List.getElem?_set_ne (by omega), List.getElem?_set_ne (by omega)]), take6_in rfl (by omega)]
    · obtain ⟨n1, n2, n3, n4, n5, p, n, c, he⟩ := h.slots k hk
      refine ⟨n1, n2, n3, n4, n5, p, n, c, ?_⟩
      generalize (first + q.length) % 4 = y at *
      rw [take6 (ds := cs) (fun i hi => by rw [List.getElem?_set_ne (by omega), List.getElem?_set_ne (by omega), setL_get _ _ _ _ (by simp only [List.length_cons, List.length_nil]; omega)])]
      exact he

theorem ChanS.send {cs : List Value} {m : MsgD} {q : List MsgD} {first sent : Nat} {p : Option Addr} {c : Nat} (hl : cs.length = 27) (hq : q.length < 4) (hf : first < 4) {M : List Nat} {w : World} (h : ChanS cs q first M w) (hm : Gv.rep M w (m.cells p c) m) : ChanS (sentTo cs first q.length sent (m.cells p c)) (q ++ [m]) first M w := by
  intro k hk
  unfold sentTo
  rw [List.length_append, List.length_singleton] at hk
  have hlt : (first + k) % 4 < 4 := Nat.mod_lt _ (by omega)
  by_cases hkq : k < q.length
  · rw [List.getElem_append_left hkq]
    have := h k hkq
    have hne : (first + k) % 4 ≠ (first + q.length) % 4 := by omega
    have hlt2 : (first + q.length) % 4 < 4 := Nat.mod_lt _ (by omega)
    generalize (first + k) % 4 = z at *
    generalize (first + q.length) % 4 = y at *
    rw [take6 (ds := cs)]
    · exact this
    · intro i hi
      rw [List.getElem?_set_ne (by omega), List.getElem?_set_ne (by omega), setL_get _ _ _ _ (by simp only [List.length_cons, List.length_nil]; omega)]
  · have : k = q.length := by omega
    subst this
    rw [List.getElem_append_right (Nat.le_refl _)]
    simp only [Nat.sub_self, List.getElem_cons_zero]
    generalize (first + q.length) % 4 = y at *
    rw [take6 (ds := setL cs (y * 6) (m.cells p c)), take6_in rfl (by omega)]
    · exact hm
    · intro i hi
      rw [List.getElem?_set_ne (by omega), List.getElem?_set_ne (by omega)]

/-! ### the methods -/
section
variable {W w : World} {S : List Own} {Φ : PW}

theorem New_use [Stable Φ] (c : Ctx W w S Φ) {K : Ending → World → Prop} (hk : ∀ b w', Ctx W w' (.blk b chan0 59 :: S) Φ → K (.returned (.pointer (some ⟨b, 0, none⟩))) w') : Calls Tryz.prog F.channel_New #[] w K :=
  (Bchannel_New_run (J := fun u w' => K (.returned u) w') c fun b w G cx => hk b w (by simpa using cx.left)).mono fun e w' ⟨v, he, hj⟩ => by rw [he]; exact hj

theorem Len_use [Stable Φ] {b : Nat} {cs : List Value} {t : TypeId} {n : Int} {i : Nat} (c : Ctx W w S Φ) (hi : S[i]? = some (.blk b cs t)) (hn : cs[25]? = some (.int .i64 n)) {K : Ending → World → Prop} (hk : ∀ w', Ctx W w' S Φ → K (.returned (.int .i64 n)) w') :
    Calls Tryz.prog F.channel_Channel_Len #[.pointer (some ⟨b, 0, none⟩)] w K :=
  (Bchannel_Channel_Len_run b 0 (J := fun u w' => K (.returned u) w') c fun w G cx => ⟨n, cx.left.get i hi (by rw [Nat.zero_add]; exact hn), fun w G cx => hk w cx.left⟩).mono fun e w' ⟨v, he, hj⟩ => by rw [he]; exact hj

theorem Free_use [Stable Φ] {b : Nat} {cs : List Value} {t : TypeId} {n : Int} {i : Nat} (c : Ctx W w S Φ) (hi : S[i]? = some (.blk b cs t)) (hn : cs[25]? = some (.int .i64 n)) (h0 : 0 ≤ n) (h4 : n ≤ 4) {K : Ending → World → Prop} (hk : ∀ w', Ctx W w' S Φ → K (.returned (.int .i64 (4 - n))) w') :
    Calls Tryz.prog F.channel_Channel_Free #[.pointer (some ⟨b, 0, none⟩)] w K :=
  (Bchannel_Channel_Free_run b 0 (J := fun u w' => K (.returned u) w') c fun w G cx => ⟨n, cx.left.get i hi (by rw [Nat.zero_add]; exact hn), by unfold I64; omega, fun w G cx => hk w cx.left⟩).mono fun e w' ⟨v, he, hj⟩ => by rw [he]; exact hj

theorem Head_none [Stable Φ] {b : Nat} {cs : List Value} {first sent : Nat} (c : Ctx W w (.blk b cs 59 :: S) Φ) (hc : ChanC cs [] first sent) {K : Ending → World → Prop} (hk : ∀ w', Ctx W w' (.blk b cs 59 :: S) Φ → K (.returned (.tuple #[msg0.v none 0, .bool false])) w') :
    Calls Tryz.prog F.channel_Channel_Head #[.pointer (some ⟨b, 0, none⟩)] w K := by
  refine (Bchannel_Channel_Head_run b 0 (J := fun u w' => K (.returned u) w') c ?_).mono fun e w' ⟨v, he, hj⟩ => by rw [he]; exact hj
  refine fun _ w G cx => ⟨0, cx.left.get 0 rfl (by rw [Nat.zero_add]; exact hc.c25), Br.intro (fun h => fun w G cx => hk w cx.left) (fun h => by simp at h)⟩

theorem Head_some [Stable Φ] {b : Nat} {cs : List Value} {first sent : Nat} {m : MsgD} {q : List MsgD} (c : Ctx W w (.blk b cs 59 :: S) Φ) (hc : ChanC cs (m :: q) first sent) (hS : ∀ M w, Φ M w → ChanS cs (m :: q) first M w) {K : Ending → World → Prop}
    (hk : ∀ p cap ds rows w', Fresh ds rows m.deltas → Ctx W w' (.blk b cs 59 :: (.buf p m.deltas.length cap ds 62 3 :: rows) ++ S) Φ → K (.returned (.tuple #[m.v p cap, .bool true])) w') :
    Calls Tryz.prog F.channel_Channel_Head #[.pointer (some ⟨b, 0, none⟩)] w K := by
  have hf := hc.lt4
  have hl := hc.len
  obtain ⟨p0, c0, he, hle, hcm, hok, _⟩ : ∃ p c, (cs.drop (first * 6)).take 6 = m.cells p c ∧ m.deltas.length ≤ c ∧ c ≤ maxLen ∧ m.Ok ∧ Sl (dom (Own.blk b cs 59 :: S)) w p m.deltas := by
    have := hS _ _ c.phi 0 (by simp)
    rw [Nat.add_zero, Nat.mod_eq_of_lt hf] at this
    exact msg_cells this
  have hsl : ∀ M w, Φ M w → Sl M w p0 m.deltas := fun M w h => by
    have := hS _ _ h 0 (by simp)
    rw [Nat.add_zero, Nat.mod_eq_of_lt hf, he] at this
    exact msg_sl this
  have hsm := hc.small m (by simp)
  refine (Bchannel_Channel_Head_run b 0 (J := fun u w' => K (.returned u) w') c ?_).mono fun e w' ⟨v, he, hj⟩ => by rw [he]; exact hj
  refine fun _ w G cx => ⟨_, cx.left.get 0 rfl (by rw [Nat.zero_add]; exact hc.c25), Br.intro (fun h => by simp at h; omega) (fun h => ?_)⟩
  refine ⟨.blk b cs 59 :: S, Φ, inferInstance, fun w G cx => cx, (first : Int), fun w G cx => ⟨_, cx.get 0 rfl (by rw [Nat.zero_add]; exact hc.c24), rfl⟩, by omega, fun w G cx => ⟨m.kind, m.node, m.inp, m.bucket, m.n, p0, m.deltas.length, c0, cx.row 0 rfl ?_, fun w G cx => ?_⟩⟩
  · rw [Int.toNat_natCast, Nat.zero_add]
    exact rows_of (vs := m.cells p0 c0) he
  · refine (clone_copy p0 c0 m hsl hsm.1 hsm.2).use cx fun p cap ds rows w hfr cx => ⟨_, _, _, _, _, p, _, cap, rfl, .blk b cs 59 :: (.buf p m.deltas.length cap ds 62 3 :: rows) ++ S, Φ, inferInstance, ?_, ?_, ?_, fun w G cx => hk p cap ds rows w hfr cx.left⟩
    · refine cx.perm ?_
      have : (Own.buf p m.deltas.length cap ds 62 3 :: rows ++ (.blk b cs 59 :: (S ++ G))).Perm (.blk b cs 59 :: (Own.buf p m.deltas.length cap ds 62 3 :: rows ++ (S ++ G))) := List.perm_middle
      simpa using this
    · exact fun w G cx => cx.sub (by simp only [List.cons_append, List.append_assoc]; exact List.Sublist.cons_cons _ (List.Sublist.cons _ (List.sublist_append_right _ _)))
    · exact fun w G cx => cx.sub (by simp only [List.cons_append, List.append_assoc]; exact List.Sublist.cons_cons _ (List.Sublist.cons _ (List.sublist_append_right _ _)))

theorem Take_none [Stable Φ] {b : Nat} {cs : List Value} {first sent : Nat} (c : Ctx W w (.blk b cs 59 :: S) Φ) (hc : ChanC cs [] first sent) {K : Ending → World → Prop} (hk : ∀ w', Ctx W w' (.blk b cs 59 :: S) Φ → K (.returned (.tuple #[msg0.v none 0, .int .i64 4])) w') :
    Calls Tryz.prog F.channel_Channel_Take #[.pointer (some ⟨b, 0, none⟩)] w K := by
  refine (Ochannel_Channel_Take_run b 0 (J := fun u w' => K (.returned u) w') c ?_).mono fun e w' ⟨v, he, hj⟩ => by rw [he]; exact hj
  refine fun _ w G cx => Head_none cx hc fun w cx => ⟨_, _, _, _, _, _, _, _, _, rfl, .blk b cs 59 :: S, Φ, inferInstance, cx, fun _ => Br.intro (fun h => fun w G cx => hk w cx.left) (fun h => by cases h)⟩

theorem Take_some [Stable Φ] {b : Nat} {cs : List Value} {first sent : Nat} {m : MsgD} {q : List MsgD} (c : Ctx W w (.blk b cs 59 :: S) Φ) (hc : ChanC cs (m :: q) first sent) (hS : ∀ M w, Φ M w → ChanS cs (m :: q) first M w) {K : Ending → World → Prop}
    (hk : ∀ p cap ds rows w', Fresh ds rows m.deltas → Ctx W w' (.blk b (taken cs first q.length) 59 :: (.buf p m.deltas.length cap ds 62 3 :: rows) ++ S) Φ → K (.returned (.tuple #[m.v p cap, .int .i64 0])) w') :
    Calls Tryz.prog F.channel_Channel_Take #[.pointer (some ⟨b, 0, none⟩)] w K := by
  have hf := hc.lt4
  have hl := hc.len
  have hcnt := hc.count
  refine (Ochannel_Channel_Take_run b 0 (J := fun u w' => K (.returned u) w') c ?_).mono fun e w' ⟨v, he, hj⟩ => by rw [he]; exact hj
  refine fun _ w G cx => Head_some cx hc hS fun p cap ds rows w hfr cx => ⟨_, _, _, _, _, p, _, cap, _, rfl, .blk b cs 59 :: (.buf p m.deltas.length cap ds 62 3 :: rows) ++ S, Φ, inferInstance, by simpa using cx, fun _ => Br.intro (fun h => by cases h) (fun h => ?_)⟩
  refine ⟨[], fun _ _ => True, inferInstance, fun w G cx => (cx.right.weak fun _ _ _ => trivial), fun w G cx => ⟨(first : Int), cx.get 0 rfl (by rw [Nat.zero_add]; exact hc.c24), by omega, fun w G cx => ⟨cx.can 0 rfl (by rw [Int.toNat_natCast]; omega), fun w' hw' => ?_⟩⟩⟩
  rw [Int.toNat_natCast, Nat.zero_add] at hw'
  have cx1 := cx.puts 0 hw' rfl
  refine ⟨.blk b (setL cs (first * 6) [.int .i64 0, .int .i64 0, .int .i64 0, .int .i64 0, .int .i64 0, .slice none 0 0]) 59 :: (.buf p m.deltas.length cap ds 62 3 :: rows) ++ S, Φ, inferInstance, cx1, fun w G cx => (cx.right.weak fun _ _ _ => trivial), fun w G cx => ⟨(first : Int), cx.get 0 rfl ?_, by unfold I64; omega, by omega, fun w G cx => ⟨cx.can 0 rfl (by rw [setL_len]; omega), fun w' hw' => ?_⟩⟩⟩
  · rw [Nat.zero_add, setL_get _ _ _ _ (by simp only [List.length_cons, List.length_nil]; omega)]
    exact hc.c24
  rw [Nat.zero_add] at hw'
  have cx1 := cx.put 0 hw' rfl
  have e1 : ((first : Int) + 1).tmod 4 = ((first + 1) % 4 : Nat) := rfl
  rw [e1] at cx1
  refine ⟨.blk b ((setL cs (first * 6) [.int .i64 0, .int .i64 0, .int .i64 0, .int .i64 0, .int .i64 0, .slice none 0 0]).set 24 (.int .i64 ((first + 1) % 4 : Nat))) 59 :: (.buf p m.deltas.length cap ds 62 3 :: rows) ++ S, Φ, inferInstance, cx1, fun w G cx => ⟨((m :: q).length : Int), cx.get 0 rfl ?_, ?_, fun w G cx => ⟨cx.can 0 rfl ?_, fun w' hw' => ?_⟩⟩⟩
  · rw [Nat.zero_add, List.getElem?_set_ne (by omega), setL_get _ _ _ _ (by simp only [List.length_cons, List.length_nil]; omega)]
    exact hc.c25
  · unfold I64; omega
  · rw [List.length_set, setL_len]; omega
  rw [Nat.zero_add] at hw'
  have cx1 := cx.put 0 hw' rfl
  have e2 : ((m :: q).length : Int) - 1 = (q.length : Nat) := by rw [List.length_cons]; omega
  rw [e2] at cx1
  exact ⟨.blk b (taken cs first q.length) 59 :: (.buf p m.deltas.length cap ds 62 3 :: rows) ++ S, Φ, inferInstance, cx1, fun w G cx => hk p cap ds rows w hfr cx.left⟩

theorem Send_arg [Stable Φ] {b : Nat} {cs : List Value} {m : MsgD} {p : Option Addr} {cap : Nat} (c : Ctx W w (.blk b cs 59 :: S) Φ) (hm : ∀ M w, Φ M w → Sl M w p m.deltas) (hlen : m.deltas.length ≤ 9223372036854775807) (hr : rightM m = false) {K : Ending → World → Prop}
    (hk : ∀ w', Ctx W w' (.blk b cs 59 :: S) Φ → K (.returned (.int .i64 1)) w') : Calls Tryz.prog F.channel_Channel_Send #[.pointer (some ⟨b, 0, none⟩), m.v p cap] w K := by
  refine (Ochannel_Channel_Send_run b 0 m.kind m.node m.inp m.bucket m.n p m.deltas.length cap (J := fun u w' => K (.returned u) w') c ?_).mono fun e w' ⟨v, he, hj⟩ => by rw [he]; exact hj
  exact fun _ w G cx => (Right_in p cap m hm hlen).use cx fun w cx => ⟨_, rfl, .blk b cs 59 :: S, Φ, inferInstance, cx, Br.intro (fun h => fun w G cx => hk w cx.left) (fun h => by rw [hr] at h; cases h)⟩

theorem Send_full [Stable Φ] {b : Nat} {cs : List Value} {m : MsgD} {p : Option Addr} {cap : Nat} {q : List MsgD} {first sent : Nat} (c : Ctx W w (.blk b cs 59 :: S) Φ) (hc : ChanC cs q first sent) (hm : ∀ M w, Φ M w → Sl M w p m.deltas) (hlen : m.deltas.length ≤ 9223372036854775807) (hr : rightM m = true) (hq : q.length = 4)
    {K : Ending → World → Prop} (hk : ∀ w', Ctx W w' (.blk b cs 59 :: S) Φ → K (.returned (.int .i64 27)) w') : Calls Tryz.prog F.channel_Channel_Send #[.pointer (some ⟨b, 0, none⟩), m.v p cap] w K := by
  refine (Ochannel_Channel_Send_run b 0 m.kind m.node m.inp m.bucket m.n p m.deltas.length cap (J := fun u w' => K (.returned u) w') c ?_).mono fun e w' ⟨v, he, hj⟩ => by rw [he]; exact hj
  exact fun _ w G cx => (Right_in p cap m hm hlen).use cx fun w cx => ⟨_, rfl, .blk b cs 59 :: S, Φ, inferInstance, cx, Br.intro (fun h => by rw [hr] at h; cases h) (fun h => fun w G cx => ⟨_, cx.get 0 rfl (by rw [Nat.zero_add]; exact hc.c25), Br.intro (fun h => fun w G cx => hk w cx.left) (fun h => by simp at h; omega)⟩)⟩

theorem Send_ok [Stable Φ] {b : Nat} {cs : List Value} {m : MsgD} {p : Option Addr} {cap : Nat} {q : List MsgD} {first sent : Nat} (c : Ctx W w (.blk b cs 59 :: S) Φ) (hc : ChanC cs q first sent) (hm : ∀ M w, Φ M w → Sl M w p m.deltas) (hlen : m.deltas.length ≤ 9223372036854775807) (hr : rightM m = true) (hq : q.length < 4)
    (hs : sent < 1000000) {K : Ending → World → Prop}
    (hk : ∀ p' cap' w', m.deltas.length ≤ cap' → cap' ≤ maxLen → Ctx W w' (.blk b (sentTo cs first q.length sent (m.cells p' cap')) 59 :: S) (fun M w => Φ M w ∧ Sl M w p' m.deltas) → K (.returned (.int .i64 0)) w') :
    Calls Tryz.prog F.channel_Channel_Send #[.pointer (some ⟨b, 0, none⟩), m.v p cap] w K := by
  have hf := hc.lt4
  have hl := hc.len
  have hsm := right_small hr
  have hix : (first + q.length) % 4 < 4 := Nat.mod_lt _ (by omega)
  have htm : ((first : Int) + (q.length : Int)).tmod 4 = ((first + q.length) % 4 : Nat) := rfl
  have held : ∀ {ds : List Value} (h24 : ds[24]? = some (.int .i64 first)) (h25 : ds[25]? = some (.int .i64 q.length)) {w : World} {G : List Own} {Ψ : PW} [Stable Ψ], Ctx W w (.blk b ds 59 :: S ++ G) Ψ → Ctx W w (S ++ G) (fun M w => RowIn b 24 [.int .i64 first, .int .i64 q.length] M w) := by
    intro ds h24 h25 w G Ψ _ cx
    exact cx.park.weak fun M w h => h.2.rowIn fun j hj => by
      match j, hj with
      | 0, _ => exact h24
      | 1, _ => exact h25
  refine (Ochannel_Channel_Send_run b 0 m.kind m.node m.inp m.bucket m.n p m.deltas.length cap (J := fun u w' => K (.returned u) w') c ?_).mono fun e w' ⟨v, he, hj⟩ => by rw [he]; exact hj
  refine fun _ w G cx => (Right_in p cap m hm hlen).use cx fun w cx => ⟨_, rfl, .blk b cs 59 :: S, Φ, inferInstance, cx, Br.intro (fun h => by rw [hr] at h; cases h) (fun h => fun w G cx => ⟨_, cx.get 0 rfl (by rw [Nat.zero_add]; exact hc.c25), Br.intro (fun h => by simp at h; omega) (fun h => ?_)⟩)⟩
  refine ⟨S, fun M w => RowIn b 24 [.int .i64 first, .int .i64 q.length] M w, inferInstance, fun w G cx => held hc.c24 hc.c25 cx, (first : Int), fun w G cx => ⟨_, ?_, rfl⟩, (q.length : Int), fun w G cx => ⟨_, ?_, rfl⟩, by unfold I64; omega, by omega, fun w G cx => ?_⟩
  · have := cx.phi.2.1 0 (by simp)
    rw [Nat.zero_add]
    exact this
  · have := cx.phi.2.1 1 (by simp)
    rw [Nat.zero_add]
    exact this
  refine (clone_copy p cap m hm hsm.1 hsm.2).gsl.use cx fun p' cap' w hc1 hc2 cx => ⟨_, _, _, _, _, p', _, cap', rfl, .blk b cs 59 :: S, fun M w => Φ M w ∧ Sl M w p' m.deltas, inferInstance, cx, fun w G cx => held hc.c24 hc.c25 cx, by rw [htm]; omega, fun w G cx => ⟨cx.can 0 rfl (by rw [htm, Int.toNat_natCast]; omega), fun w' hw' => ?_⟩⟩
  rw [htm, Int.toNat_natCast, Nat.zero_add] at hw'
  have cx1 := cx.puts 0 hw' rfl
  have g24 : (setL cs ((first + q.length) % 4 * 6) (m.cells p' cap'))[24]? = some (.int .i64 first) := by rw [setL_get _ _ _ _ (by simp only [List.length_cons, List.length_nil]; omega)]; exact hc.c24
  have g25 : (setL cs ((first + q.length) % 4 * 6) (m.cells p' cap'))[25]? = some (.int .i64 q.length) := by rw [setL_get _ _ _ _ (by simp only [List.length_cons, List.length_nil]; omega)]; exact hc.c25
  refine ⟨.blk b (setL cs ((first + q.length) % 4 * 6) (m.cells p' cap')) 59 :: S, fun M w => Φ M w ∧ Sl M w p' m.deltas, inferInstance, cx1, fun w G cx => held g24 g25 cx, fun w G cx => ⟨(q.length : Int), cx.get 0 rfl (by rw [Nat.zero_add]; exact g25), by unfold I64; omega, fun w G cx => ⟨cx.can 0 rfl (by rw [setL_len]; omega), fun w' hw' => ?_⟩⟩⟩
  rw [Nat.zero_add] at hw'
  have cx1 := cx.put 0 hw' rfl
  have e1 : (q.length : Int) + 1 = (q.length + 1 : Nat) := by omega
  rw [e1] at cx1
  refine ⟨.blk b ((setL cs ((first + q.length) % 4 * 6) (m.cells p' cap')).set 25 (.int .i64 (q.length + 1 : Nat))) 59 :: S, fun M w => Φ M w ∧ Sl M w p' m.deltas, inferInstance, cx1, fun w G cx => ⟨(sent : Int), cx.get 0 rfl ?_, by unfold I64; omega, fun w G cx => ⟨cx.can 0 rfl ?_, fun w' hw' => ?_⟩⟩⟩
  · rw [Nat.zero_add, List.getElem?_set_ne (by omega), setL_get _ _ _ _ (by simp only [List.length_cons, List.length_nil]; omega)]
    exact hc.c26
  · rw [List.length_set, setL_len]; omega
  rw [Nat.zero_add] at hw'
  have cx1 := cx.put 0 hw' rfl
  have e2 : (sent : Int) + 1 = (sent + 1 : Nat) := by omega
  rw [e2] at cx1
  exact ⟨.blk b (sentTo cs first q.length sent (m.cells p' cap')) 59 :: S, fun M w => Φ M w ∧ Sl M w p' m.deltas, inferInstance, cx1, fun w G cx => hk p' cap' w hc1 hc2 cx.left⟩

end

end Go.Proofs.YtfpgbejdlikpgaaGreatDoor
end

/-
  The reference's Right, walked. (Out of r36Ve, over the delta family.)
-/
section
set_option linter.unusedVariables false
set_option linter.unusedSimpArgs false
namespace Go.Proofs.YtfpgbejdlikpgaaGreatDoor
open Go.Vc

theorem cmpI_refl (x : Int) : cmpI x x = 0 := by unfold cmpI; simp
theorem cmpV_refl (x : ValD) : cmpV x x = 0 := by
  unfold cmpV cmpL
  rw [cmpI_refl, cmpI_refl, cmpT_refl]
  rfl
theorem cmpR_refl : ∀ l : List ValD, cmpR l l = 0
  | [] => rfl
  | x :: r => by unfold cmpR; rw [cmpV_refl, cmpR_refl r]; simp

theorem any_not {α : Type} (q : α → Bool) (l : List α) (i : Nat) (hi : i < l.length) (h : q l[i] = false) : (!l.any fun x => !q x) = false := by
  rw [Bool.not_eq_false', List.any_eq_true]
  exact ⟨l[i], List.getElem_mem _, by rw [h]; rfl⟩
theorem any_all {α : Type} (q : α → Bool) (l : List α) (h : ∀ i, (hi : i < l.length) → q l[i] = true) : (!l.any fun x => !q x) = true := by
  rw [Bool.not_eq_true', List.any_eq_false]
  intro x hx
  obtain ⟨i, hi, rfl⟩ := List.getElem_of_mem hx
  rw [h i hi]
  simp

theorem rSameRows_in {Φ : PW} [Stable Φ] (p q : Option Addr) (cap cap2 : Nat) (l r : List ValD) (hΦ : ∀ M w, Φ M w → Sl M w p l) (hΨ : ∀ M w, Φ M w → Sl M w q r) (hlen : l.length ≤ 9223372036854775807) :
    GivesIn Φ Tryz.prog F.errataref03_Same #[.slice p l.length cap, .slice q r.length cap2] (.bool (decide (cmpR l r = 0))) := by
  refine gives_in (Berrataref03_Same_run p l.length cap q r.length cap2) fun W R => ?_
  exact fun w G cx => (rCompareRows_in p q cap cap2 l r hΦ hΨ hlen).use cx fun w cx => ⟨_, rfl, R, Φ, inferInstance, cx, fun w G cx => ⟨rfl, cx.left⟩⟩

theorem headM_iff (m : MsgD) : headM m = true ↔ (0 ≤ m.kind ∧ m.kind < 3 ∧ 0 ≤ m.node ∧ m.node ≤ 1099511627776 ∧ 0 ≤ m.inp ∧ m.inp ≤ 1099511627776 ∧ 0 ≤ m.bucket ∧ m.bucket ≤ 1099511627776 ∧ -1 ≤ m.n ∧ m.n ≤ 1099511627776 ∧ (m.deltas.length = 0 ∨ m.kind = 0) ∧ m.deltas.length ≤ 8) := by
  unfold headM numsM numBad
  simp only [List.any_cons, List.any_nil, Bool.or_false, Bool.and_eq_true, Bool.not_eq_true', Bool.or_eq_false_iff, Bool.and_eq_false_iff, decide_eq_false_iff_not, Decidable.not_not]
  omega

set_option maxHeartbeats 1000000 in
theorem rRight_in {Φ : PW} [Stable Φ] (p : Option Addr) (cap : Nat) (m : MsgD) (hΦ : ∀ M w, Φ M w → Sl M w p m.deltas) (hlen : m.deltas.length ≤ 9223372036854775807) :
    GivesIn Φ Tryz.prog F.errataref36_Right #[m.v p cap] (.bool (rightM m)) := by
  refine .pinned hΦ fun b o cs hp => ?_
  refine in_cells (fun M w h => h.2) fun hcs => ?_
  refine gives_in (Berrataref36_Right_run m.kind m.node m.inp m.bucket m.n p m.deltas.length cap) fun W R => ?_
  refine fun _ w G cx => fun w G cx => Br.intro (fun h1 => fun w G cx => ⟨?_, cx.left⟩) (fun h1 => Br.intro (fun h2 => fun w G cx => ⟨?_, cx.left⟩) (fun h2 => fun w G cx => ?_))
  · have : headM m = false := by
      rw [← Bool.not_eq_true, headM_iff]
      simp only [Bool.not_eq_true', Bool.and_eq_false_iff, decide_eq_false_iff_not] at h1
      omega
    unfold rightM
    rw [this]; rfl
  · have : headM m = false := by
      rw [← Bool.not_eq_true, headM_iff]
      simp only [Bool.not_eq_true', Bool.and_eq_false_iff, Bool.or_eq_false_iff, decide_eq_false_iff_not] at h2
      omega
    unfold rightM
    rw [this]; rfl
  have hhead : headM m = true := by
    rw [headM_iff]
    simp only [Bool.not_eq_false', Bool.and_eq_true, Bool.or_eq_true, decide_eq_true_eq] at h1 h2
    omega
  unfold rightM
  rw [hhead, Bool.true_and]
  refine (Con28_pin (Φ := fun M w => Φ M w ∧ Pin b o cs m.deltas M w) p cap m.deltas b o cs hp (fun _ _ h => h.2) hlen).use cx fun w cx => ⟨_, rfl, R, fun M w => Φ M w ∧ Pin b o cs m.deltas M w, inferInstance, cx, Br.intro (fun h3 => fun w G cx => ⟨?_, cx.left⟩) (fun h3 => ?_)⟩
  · have h3 : consolidated m.deltas = false := by simpa using h3
    rw [h3]; rfl
  have h3 : consolidated m.deltas = true := by simpa using h3
  rw [h3, Bool.true_and]
  refine exI_mk (fun n R' Φ' k => ∃ i : Nat, n = i ∧ i ≤ m.deltas.length ∧ R' = R ∧ Φ' = (fun M w => Φ M w ∧ Pin b o cs m.deltas M w) ∧ k = m.deltas.length - i ∧ ∀ j, (hj : j < m.deltas.length) → j < i → rightR m.deltas[j].row = true) ⟨⟨R, _, _, inferInstance, fun w F c => c, 0, rfl, Nat.zero_le _, rfl, rfl, rfl, fun j hj h => by omega⟩, ?_⟩
  rintro n R1 Φ1 k _ ⟨i, rfl, hi, rfl, rfl, rfl, hok⟩
  refine Br.intro (fun hlt => ?_) (fun hge => fun w G cx => ⟨?_, cx.left⟩)
  · have hlt : i < m.deltas.length := by simpa using hlt
    obtain ⟨q, qc, he, hq1, hq2, _, _⟩ := hcs i hlt
    refine ⟨by omega, ptrK_intro b o (hp (by omega)) fun w G cx => ⟨q, m.deltas[i].row.length, qc, pin_rowAt cx.phi.2 hlt he 1 (by simp), fun w G cx => (RightRow3_in (Φ := fun M w => Φ M w ∧ Pin b o cs m.deltas M w) q qc m.deltas[i].row (fun M w h => pin_row h.2 hlt he) (len_max hq1 hq2)).use cx fun w cx => ⟨_, rfl, R1, _, inferInstance, cx, Br.intro (fun h => fun w G cx => ⟨?_, cx.left⟩) (fun h => ⟨by unfold I64; omega, R1, _, m.deltas.length - (i + 1), inferInstance, fun w F c => c, ⟨i + 1, rfl, hlt, rfl, rfl, rfl, fun j hj hji => ?_⟩, by omega⟩)⟩⟩⟩
    · rw [any_not (fun d : DeltaD => rightR d.row) m.deltas i hlt (by simpa using h)]
    · rcases Nat.lt_or_ge j i with h' | h'
      · exact hok j hj h'
      · have : j = i := by omega
        subst this
        simpa using h
  · have hge : i = m.deltas.length := Nat.le_antisymm hi (by simpa using hge)
    rw [any_all (fun d : DeltaD => rightR d.row) m.deltas fun j hj => hok j hj (by omega)]

end Go.Proofs.YtfpgbejdlikpgaaGreatDoor
end

/-
  Formulas in an older shape (printed by a program for another seat; numbers of types turned).
-/
section
namespace Go.Proofs.YtfpgbejdlikpgaaGreatDoor
set_option linter.unusedVariables false
set_option linter.unusedSimpArgs false
set_option maxRecDepth 100000
open Go.Vc

def Oerrataref36_Same (a0 : Int) (a1 : Int) (a2 : Int) (a3 : Int) (a4 : Int) (a5P : Option Addr) (a5N a5C : Nat) (b0 : Int) (b1 : Int) (b2 : Int) (b3 : Int) (b4 : Int) (b5P : Option Addr) (b5N b5C : Nat) (W : World) (R : List Own) (Φ : PW) (J : Value → World → Prop) : Prop :=
  ∀ (b b : Nat) (w0 : World) (R1 : List Own), Ctx W w0 (R ++ R1) Φ → Br (decide (a0 ≠ b0) || decide (a1 ≠ b1) || decide (a2 ≠ b2) || decide (a3 ≠ b3) || decide (a4 ≠ b4) || decide ((↑a5N :
  Int) ≠ (↑b5N : Int))) (∀ (w2 : World) (R3 : List Own), Ctx W w2 (R ++ R3) Φ → J (Value.bool false) w2) (exI fun (I4 : Int → List Own → PW → Nat → Prop) => (∃ (R5 : List Own), ∃ (Φ6 : PW), ∃
  (k7 : Nat), Stable Φ6 ∧ (∀ (w8 : World) (R9 : List Own), Ctx W w8 (R ++ R9) Φ → Ctx W w8 (R5 ++ R9) Φ6) ∧ I4 0 R5 Φ6 k7) ∧ ∀ (n10 : Int) (R11 : List Own) (I12 : List Nat → World → Prop)
  (k13 : Nat), Stable I12 → I4 n10 R11 I12 k13 → Br (decide (n10 < (↑a5N : Int))) (∃ (R14 : List Own), ∃ (Φ15 : PW), Stable Φ15 ∧ (∀ (w16 : World) (R17 : List Own), Ctx W w16 (R11 ++ R17) I12
  → Ctx W w16 (R14 ++ R17) Φ15) ∧ (0 ≤ n10 ∧ n10 < (↑a5N : Int)) ∧ ptrK none a5P fun (k18 k19 : Nat) => (0 ≤ n10 ∧ n10 < (↑b5N : Int)) ∧ ptrK none b5P fun (k20 k21 : Nat) => ∃ (n22 : Int), (∀
  (w23 : World) (R24 : List Own), Ctx W w23 (R14 ++ R24) Φ15 → ∃ (n25 : Int), w23.cell? (Addr.mk k18 (k19 + n10.toNat * 3) none) = some (Value.int IntKind.i64 n25) ∧ Value.int IntKind.i64 n25
  = Value.int IntKind.i64 n22) ∧ ∃ (n26 : Int), (∀ (w27 : World) (R28 : List Own), Ctx W w27 (R14 ++ R28) Φ15 → ∃ (n29 : Int), w27.cell? (Addr.mk k20 (k21 + n10.toNat * 3) none) = some
  (Value.int IntKind.i64 n29) ∧ Value.int IntKind.i64 n29 = Value.int IntKind.i64 n26) ∧ Br (decide (n22 ≠ n26)) (∀ (w30 : World) (R31 : List Own), Ctx W w30 (R11 ++ R31) I12 → J (Value.bool
  false) w30) ((0 ≤ n10 ∧ n10 < (↑a5N : Int)) ∧ ptrK none a5P fun (k32 k33 : Nat) => (0 ≤ n10 ∧ n10 < (↑b5N : Int)) ∧ ptrK none b5P fun (k34 k35 : Nat) => ∃ (n36 : Int), (∀ (w37 : World) (R38
  : List Own), Ctx W w37 (R14 ++ R38) Φ15 → ∃ (n39 : Int), w37.cell? (Addr.mk k32 (k33 + n10.toNat * 3 + 2) none) = some (Value.int IntKind.i64 n39) ∧ Value.int IntKind.i64 n39 = Value.int
  IntKind.i64 n36) ∧ ∃ (n40 : Int), (∀ (w41 : World) (R42 : List Own), Ctx W w41 (R14 ++ R42) Φ15 → ∃ (n43 : Int), w41.cell? (Addr.mk k34 (k35 + n10.toNat * 3 + 2) none) = some (Value.int
  IntKind.i64 n43) ∧ Value.int IntKind.i64 n43 = Value.int IntKind.i64 n40) ∧ Br (decide (n36 ≠ n40)) (∀ (w44 : World) (R45 : List Own), Ctx W w44 (R11 ++ R45) I12 → J (Value.bool false) w44)
  ((0 ≤ n10 ∧ n10 < (↑a5N : Int)) ∧ ptrK none a5P fun (k46 k47 : Nat) => (0 ≤ n10 ∧ n10 < (↑b5N : Int)) ∧ ptrK none b5P fun (k48 k49 : Nat) => ∃ (p50 : Option Addr), ∃ (k51 : Nat), ∃ (k52 :
  Nat), (∀ (w53 : World) (R54 : List Own), Ctx W w53 (R14 ++ R54) Φ15 → ∃ (p55 : Option Addr), ∃ (k56 : Nat), ∃ (k57 : Nat), w53.cell? (Addr.mk k46 (k47 + n10.toNat * 3 + 1) none) = some
  (Value.slice p55 k56 k57) ∧ Value.slice p55 k56 k57 = Value.slice p50 k51 k52) ∧ ∃ (p58 : Option Addr), ∃ (k59 : Nat), ∃ (k60 : Nat), (∀ (w61 : World) (R62 : List Own), Ctx W w61 (R14 ++
  R62) Φ15 → ∃ (p63 : Option Addr), ∃ (k64 : Nat), ∃ (k65 : Nat), w61.cell? (Addr.mk k48 (k49 + n10.toNat * 3 + 1) none) = some (Value.slice p63 k64 k65) ∧ Value.slice p63 k64 k65 =
  Value.slice p58 k59 k60) ∧ ∀ (w66 : World) (R67 : List Own), Ctx W w66 (R11 ++ R67) I12 → Calls Tryz.prog F.errataref03_Same #[Value.slice p50 k51 k52, Value.slice p58 k59 k60] w66 fun (e68
  : Ending) (w69 : World) => ∃ (c70 : Bool), e68 = Ending.returned (Value.bool c70) ∧ ∃ (R71 : List Own), ∃ (Φ72 : PW), Stable Φ72 ∧ Ctx W w69 (R71 ++ R67) Φ72 ∧ (∀ (w73 : World) (R74 : List
  Own), Ctx W w73 (R71 ++ R74) Φ72 → Ctx W w73 (R14 ++ R74) Φ15) ∧ Br (!c70) (∀ (w75 : World) (R76 : List Own), Ctx W w75 (R71 ++ R76) Φ72 → J (Value.bool false) w75) (I64 (n10 + 1) ∧ ∃ (R77
  : List Own), ∃ (Φ78 : PW), ∃ (k79 : Nat), Stable Φ78 ∧ (∀ (w80 : World) (R81 : List Own), Ctx W w80 (R71 ++ R81) Φ72 → Ctx W w80 (R77 ++ R81) Φ78) ∧ I4 (n10 + 1) R77 Φ78 k79 ∧ k79 < k13))))
  (∀ (w82 : World) (R83 : List Own), Ctx W w82 (R11 ++ R83) I12 → J (Value.bool true) w82))

theorem Oerrataref36_Same_run (a0 : Int) (a1 : Int) (a2 : Int) (a3 : Int) (a4 : Int) (a5P : Option Addr) (a5N a5C : Nat) (b0 : Int) (b1 : Int) (b2 : Int) (b3 : Int) (b4 : Int) (b5P : Option Addr) (b5N b5C : Nat) {W w : World} {R : List Own} {Φ : PW} [Stable Φ] {J : Value → World → Prop} (c : Ctx W w R Φ) (h : Oerrataref36_Same a0 a1 a2 a3 a4 a5P a5N a5C b0 b1 b2 b3 b4 b5P b5N b5C W R Φ J) : Calls Tryz.prog F.errataref36_Same #[.agg #[.int .i64 a0, .int .i64 a1, .int .i64 a2, .int .i64 a3, .int .i64 a4, .slice a5P a5N a5C], .agg #[.int .i64 b0, .int .i64 b1, .int .i64 b2, .int .i64 b3, .int .i64 b4, .slice b5P b5N b5C]] w fun e w' => ∃ v, e = .returned v ∧ J v w' :=
  vcFS_sound (H := { keep := some [2, 3, 4, 5, 47, 52, 98], track := [2, 3], stages := [(6, [.held [(0, true), (2, true), (6, true), (8, true), (1, true), (7, true), (3, true), (9, true), (4, true), (10, true), (5, true), (11, true), (12, true), (13, true), (14, true), (16, true), (20, true), (22, true), (15, true), (21, true), (17, true), (23, true), (18, true), (24, true), (19, true), (25, true), (26, true), (27, true), (28, true), (29, true), (31, true), (35, true), (37, true), (30, true), (36, true), (32, true), (38, true), (33, true), (39, true), (34, true), (40, true), (41, false), (42, true), (43, true)]])], loops := [(4, [(5, .one (.int .i64))], [])] }) (by rw [show vcFS Tryz.prog W { keep := some [2, 3, 4, 5, 47, 52, 98], track := [2, 3], stages := [(6, [.held [(0, true), (2, true), (6, true), (8, true), (1, true), (7, true), (3, true), (9, true), (4, true), (10, true), (5, true), (11, true), (12, true), (13, true), (14, true), (16, true), (20, true), (22, true), (15, true), (21, true), (17, true), (23, true), (18, true), (24, true), (19, true), (25, true), (26, true), (27, true), (28, true), (29, true), (31, true), (35, true), (37, true), (30, true), (36, true), (32, true), (38, true), (33, true), (39, true), (34, true), (40, true), (41, false), (42, true), (43, true)]])], loops := [(4, [(5, .one (.int .i64))], [])] } F.errataref36_Same #[.agg #[.int .i64 a0, .int .i64 a1, .int .i64 a2, .int .i64 a3, .int .i64 a4, .slice a5P a5N a5C], .agg #[.int .i64 b0, .int .i64 b1, .int .i64 b2, .int .i64 b3, .int .i64 b4, .slice b5P b5N b5C]] R Φ J = Oerrataref36_Same a0 a1 a2 a3 a4 a5P a5N a5C b0 b1 b2 b3 b4 b5P b5N b5C W R Φ J by kernel_rfl]; exact h) c

def Oerrataref36_SameList (aP : Option Addr) (aN aC : Nat) (bP : Option Addr) (bN bC : Nat) (W : World) (R : List Own) (Φ : PW) (J : Value → World → Prop) : Prop :=
  Br (decide ((↑aN : Int) ≠ (↑bN : Int))) (∀ (w0 : World) (R1 : List Own), Ctx W w0 (R ++ R1) Φ → J (Value.bool false) w0) (exI fun (I2 : Int → List Own → PW → Nat → Prop) => (∃ (R3 : List
  Own), ∃ (Φ4 : PW), ∃ (k5 : Nat), Stable Φ4 ∧ (∀ (w6 : World) (R7 : List Own), Ctx W w6 (R ++ R7) Φ → Ctx W w6 (R3 ++ R7) Φ4) ∧ I2 0 R3 Φ4 k5) ∧ ∀ (n8 : Int) (R9 : List Own) (I10 : List Nat
  → World → Prop) (k11 : Nat), Stable I10 → I2 n8 R9 I10 k11 → Br (decide (n8 < (↑aN : Int))) (∃ (R12 : List Own), ∃ (Φ13 : PW), Stable Φ13 ∧ (∀ (w14 : World) (R15 : List Own), Ctx W w14 (R9
  ++ R15) I10 → Ctx W w14 (R12 ++ R15) Φ13) ∧ (0 ≤ n8 ∧ n8 < (↑aN : Int)) ∧ ptrK none aP fun (k16 k17 : Nat) => (0 ≤ n8 ∧ n8 < (↑bN : Int)) ∧ ptrK none bP fun (k18 k19 : Nat) => ∀ (w20 :
  World) (R21 : List Own), Ctx W w20 (R9 ++ R21) I10 → ∃ (n22 : Int), ∃ (n23 : Int), ∃ (n24 : Int), ∃ (n25 : Int), ∃ (n26 : Int), ∃ (p27 : Option Addr), ∃ (k28 : Nat), ∃ (k29 : Nat), RowAt
  w20 k16 (k17 + n8.toNat * 6) [Value.int IntKind.i64 n22, Value.int IntKind.i64 n23, Value.int IntKind.i64 n24, Value.int IntKind.i64 n25, Value.int IntKind.i64 n26, Value.slice p27 k28 k29]
  ∧ ∀ (w30 : World) (R31 : List Own), Ctx W w30 (R9 ++ R31) I10 → ∃ (n32 : Int), ∃ (n33 : Int), ∃ (n34 : Int), ∃ (n35 : Int), ∃ (n36 : Int), ∃ (p37 : Option Addr), ∃ (k38 : Nat), ∃ (k39 :
  Nat), RowAt w30 k18 (k19 + n8.toNat * 6) [Value.int IntKind.i64 n32, Value.int IntKind.i64 n33, Value.int IntKind.i64 n34, Value.int IntKind.i64 n35, Value.int IntKind.i64 n36, Value.slice
  p37 k38 k39] ∧ ∀ (w40 : World) (R41 : List Own), Ctx W w40 (R9 ++ R41) I10 → Calls Tryz.prog F.errataref36_Same #[Value.agg #[Value.int IntKind.i64 n22, Value.int IntKind.i64 n23, Value.int
  IntKind.i64 n24, Value.int IntKind.i64 n25, Value.int IntKind.i64 n26, Value.slice p27 k28 k29], Value.agg #[Value.int IntKind.i64 n32, Value.int IntKind.i64 n33, Value.int IntKind.i64 n34,
  Value.int IntKind.i64 n35, Value.int IntKind.i64 n36, Value.slice p37 k38 k39]] w40 fun (e42 : Ending) (w43 : World) => ∃ (c44 : Bool), e42 = Ending.returned (Value.bool c44) ∧ ∃ (R45 :
  List Own), ∃ (Φ46 : PW), Stable Φ46 ∧ Ctx W w43 (R45 ++ R41) Φ46 ∧ (∀ (w47 : World) (R48 : List Own), Ctx W w47 (R45 ++ R48) Φ46 → Ctx W w47 (R12 ++ R48) Φ13) ∧ Br (!c44) (∀ (w49 : World)
  (R50 : List Own), Ctx W w49 (R45 ++ R50) Φ46 → J (Value.bool false) w49) (I64 (n8 + 1) ∧ ∃ (R51 : List Own), ∃ (Φ52 : PW), ∃ (k53 : Nat), Stable Φ52 ∧ (∀ (w54 : World) (R55 : List Own), Ctx
  W w54 (R45 ++ R55) Φ46 → Ctx W w54 (R51 ++ R55) Φ52) ∧ I2 (n8 + 1) R51 Φ52 k53 ∧ k53 < k11)) (∀ (w56 : World) (R57 : List Own), Ctx W w56 (R9 ++ R57) I10 → J (Value.bool true) w56))

theorem Oerrataref36_SameList_run (aP : Option Addr) (aN aC : Nat) (bP : Option Addr) (bN bC : Nat) {W w : World} {R : List Own} {Φ : PW} [Stable Φ] {J : Value → World → Prop} (c : Ctx W w R Φ) (h : Oerrataref36_SameList aP aN aC bP bN bC W R Φ J) : Calls Tryz.prog F.errataref36_SameList #[.slice aP aN aC, .slice bP bN bC] w fun e w' => ∃ v, e = .returned v ∧ J v w' :=
  vcFS_sound (H := { keep := some [0, 1, 4, 5, 10, 14, 26], stages := [(6, [.late [3, 7] [0, 1, 4, 5, 2, 6, 3, 7] [(8, [9])]])], loops := [(4, [(5, .one (.int .i64))], [])] }) (by rw [show vcFS Tryz.prog W { keep := some [0, 1, 4, 5, 10, 14, 26], stages := [(6, [.late [3, 7] [0, 1, 4, 5, 2, 6, 3, 7] [(8, [9])]])], loops := [(4, [(5, .one (.int .i64))], [])] } F.errataref36_SameList #[.slice aP aN aC, .slice bP bN bC] R Φ J = Oerrataref36_SameList aP aN aC bP bN bC W R Φ J by kernel_rfl]; exact h) c

end Go.Proofs.YtfpgbejdlikpgaaGreatDoor
end

/-
  The walks of Same, SameList, few, right and small.
-/
section
set_option linter.unusedVariables false
set_option linter.unusedSimpArgs false
namespace Go.Proofs.YtfpgbejdlikpgaaGreatDoor
open Go.Vc

/-- the function hands back a value of which C holds -/
structure GivesP (Φ : PW) (P : Program) (f : FuncId) (args : Array Value) (C : Value → Prop) : Prop where
  go : ∀ (W w : World) (S : List Own), Ctx W w S Φ → Calls P f args w fun e w' => ∃ v, e = .returned v ∧ C v ∧ Ctx W w' S Φ

theorem GivesP.use {Φ : PW} {P : Program} {f : FuncId} {args : Array Value} {C : Value → Prop} (h : GivesP Φ P f args C) {W w : World} {S : List Own} (c : Ctx W w S Φ) {K : Ending → World → Prop} (hk : ∀ v w', C v → Ctx W w' S Φ → K (.returned v) w') : Calls P f args w K :=
  (h.go W w S c).mono fun e w' ⟨v, he, hc, c'⟩ => by subst he; exact hk v w' hc c'

theorem gives_p {Φ : PW} [Stable Φ] {P : Program} {f : FuncId} {args : Array Value} {C : Value → Prop} {B : World → List Own → PW → (Value → World → Prop) → Prop}
    (run : ∀ {W w : World} {R : List Own} {Φ : PW} [Stable Φ] {J : Value → World → Prop}, Ctx W w R Φ → B W R Φ J → Calls P f args w fun e w' => ∃ v, e = .returned v ∧ J v w')
    (h : ∀ (W : World) (R : List Own), B W R Φ fun u w' => C u ∧ Ctx W w' R Φ) : GivesP Φ P f args C :=
  ⟨fun W w S c => run c (h W S)⟩

theorem GivesP.pinned {Φ : PW} [Stable Φ] {P : Program} {f : FuncId} {args : Array Value} {C : Value → Prop} {α : Type} [Gv α] {p : Option Addr} {l : List α} (hΦ : ∀ M w, Φ M w → Sl M w p l)
    (h : ∀ b o cs, (0 < l.length → p = some ⟨b, o, none⟩) → GivesP (fun M w => Φ M w ∧ Pin b o cs l M w) P f args C) : GivesP Φ P f args C :=
  ⟨fun W w S c => by
    obtain ⟨b, o, cs, hp, c'⟩ := c.pin (hΦ _ _ c.phi)
    exact ((h b o cs hp).go W w S c').mono fun e w' ⟨v, h1, h2, h3⟩ => ⟨v, h1, h2, h3.fst⟩⟩

theorem cells_of {W w : World} {S : List Own} {Φ : PW} {b o : Nat} {cs : List (List Value)} {l : List DeltaD} (c : Ctx W w S Φ) (hΦ : ∀ M w, Φ M w → Pin b o cs l M w) : ∀ j, (hj : j < l.length) → ∃ p c, cs.getD j [] = l[j].cells p c ∧ l[j].row.length ≤ c ∧ c ≤ maxLen ∧ I64 l[j].time ∧ I64 l[j].n := fun j hj => by
  obtain ⟨p, c, h1, h2, h3, h4, h5, _⟩ := pin_delta (hΦ _ _ c.phi) hj
  exact ⟨p, c, h1, h2, h3, h4, h5⟩

theorem GivesP.cells {Φ : PW} {f : FuncId} {args : Array Value} {C : Value → Prop} {b o : Nat} {cs : List (List Value)} {l : List DeltaD} (hΦ : ∀ M w, Φ M w → Pin b o cs l M w)
    (h : (∀ j, (hj : j < l.length) → ∃ p c, cs.getD j [] = l[j].cells p c ∧ l[j].row.length ≤ c ∧ c ≤ maxLen ∧ I64 l[j].time ∧ I64 l[j].n) → GivesP Φ Tryz.prog f args C) : GivesP Φ Tryz.prog f args C :=
  ⟨fun W w S c => (h (cells_of c hΦ)).go W w S c⟩

set_option maxHeartbeats 1000000 in
theorem rSame_in {Φ : PW} [Stable Φ] (p p' : Option Addr) (cap cap' : Nat) (m : MsgD) (hΦ : ∀ M w, Φ M w → Sl M w p m.deltas) (hΨ : ∀ M w, Φ M w → Sl M w p' m.deltas) (hlen : m.deltas.length ≤ 9223372036854775807) :
    GivesIn Φ Tryz.prog F.errataref36_Same #[m.v p cap, m.v p' cap'] (.bool true) := by
  refine .pinned hΦ fun b o cs hp => .pinned (fun M w h => hΨ M w h.1) fun b' o' cs' hp' => ?_
  refine in_cells (fun M w h => h.1.2) fun hcs => in_cells (fun M w h => h.2) fun hcs' => ?_
  refine gives_in (Oerrataref36_Same_run m.kind m.node m.inp m.bucket m.n p m.deltas.length cap m.kind m.node m.inp m.bucket m.n p' m.deltas.length cap') fun W R => ?_
  refine fun _ _ w G cx => Br.intro (fun h => by simp at h) (fun h => ?_)
  refine exI_mk (fun n R' Φ' k => ∃ i : Nat, n = i ∧ i ≤ m.deltas.length ∧ R' = R ∧ Φ' = (fun M w => (Φ M w ∧ Pin b o cs m.deltas M w) ∧ Pin b' o' cs' m.deltas M w) ∧ k = m.deltas.length - i) ⟨⟨R, _, _, inferInstance, fun w F c => c, 0, rfl, Nat.zero_le _, rfl, rfl, rfl⟩, ?_⟩
  rintro n R1 Φ1 k _ ⟨i, rfl, hi, rfl, rfl, rfl⟩
  refine Br.intro (fun hlt => ?_) (fun hge => fun w G cx => ⟨rfl, cx.left⟩)
  have hlt : i < m.deltas.length := by simpa using hlt
  obtain ⟨q, qc, he, hq1, hq2, _, _⟩ := hcs i hlt
  obtain ⟨q', qc', he', hq1', hq2', _, _⟩ := hcs' i hlt
  have hp := hp (by omega)
  have hp' := hp' (by omega)
  refine ⟨R1, _, inferInstance, fun w G cx => cx, by omega, ptrK_intro b o hp ⟨by omega, ptrK_intro b' o' hp' ⟨m.deltas[i].time, fun w G cx => ⟨_, pin_rowAt cx.phi.1.2 hlt he 0 (by simp), rfl⟩, m.deltas[i].time, fun w G cx => ⟨_, pin_rowAt cx.phi.2 hlt he' 0 (by simp), rfl⟩,
    Br.intro (fun h => by simp at h) (fun _ => ⟨by omega, ptrK_intro b o hp ⟨by omega, ptrK_intro b' o' hp' ⟨m.deltas[i].n, fun w G cx => ⟨_, pin_rowAt cx.phi.1.2 hlt he 2 (by simp), rfl⟩, m.deltas[i].n, fun w G cx => ⟨_, pin_rowAt cx.phi.2 hlt he' 2 (by simp), rfl⟩,
      Br.intro (fun h => by simp at h) (fun _ => ⟨by omega, ptrK_intro b o hp ⟨by omega, ptrK_intro b' o' hp' ⟨q, m.deltas[i].row.length, qc, fun w G cx => ⟨q, m.deltas[i].row.length, qc, pin_rowAt cx.phi.1.2 hlt he 1 (by simp), rfl⟩, q', m.deltas[i].row.length, qc', fun w G cx => ⟨q', m.deltas[i].row.length, qc', pin_rowAt cx.phi.2 hlt he' 1 (by simp), rfl⟩, fun w G cx => ?_⟩⟩⟩)⟩⟩⟩)⟩⟩⟩
  refine (rSameRows_in (Φ := fun M w => (Φ M w ∧ Pin b o cs m.deltas M w) ∧ Pin b' o' cs' m.deltas M w) q q' qc qc' m.deltas[i].row m.deltas[i].row (fun M w h => pin_row h.1.2 hlt he) (fun M w h => pin_row h.2 hlt he') (len_max hq1 hq2)).use cx fun w cx => ⟨_, rfl, R1, _, inferInstance, cx, fun w G cx => cx, ?_⟩
  rw [cmpR_refl]
  exact Br.intro (fun h => by simp at h) (fun _ => ⟨by unfold I64; omega, R1, _, m.deltas.length - (i + 1), inferInstance, fun w G cx => cx, ⟨i + 1, rfl, hlt, rfl, rfl, rfl⟩, by omega⟩)

/-! ### lists of messages -/
theorem pin_msg {M : List Nat} {w : World} {b o : Nat} {cs : List (List Value)} {l : List MsgD} (h : Pin b o cs l M w) {j : Nat} (hj : j < l.length) : ∃ p c, cs.getD j [] = l[j].cells p c ∧ l[j].deltas.length ≤ c ∧ c ≤ maxLen ∧ l[j].Ok := by
  obtain ⟨_, h1, h2⟩ := h j hj
  obtain ⟨p, c, e, g1, g2, g3, _⟩ := msg_cells h2
  exact ⟨p, c, e, g1, g2, g3⟩

theorem pin_msgSl {M : List Nat} {w : World} {b o : Nat} {cs : List (List Value)} {l : List MsgD} (h : Pin b o cs l M w) {j : Nat} (hj : j < l.length) {p : Option Addr} {c : Nat} (e : cs.getD j [] = l[j].cells p c) : Sl M w p l[j].deltas := by
  have := (h j hj).2.2
  rw [e] at this
  exact msg_sl this

theorem pin_msgAt {M : List Nat} {w : World} {b o : Nat} {cs : List (List Value)} {l : List MsgD} (h : Pin b o cs l M w) {j : Nat} (hj : j < l.length) {p : Option Addr} {c : Nat} (e : cs.getD j [] = l[j].cells p c) : RowAt w b (o + j * 6) (l[j].cells p c) := by
  have := (h j hj).2.1
  rw [e] at this
  exact this

theorem in_msgs {Φ : PW} {f : FuncId} {args : Array Value} {v : Value} {b o : Nat} {cs : List (List Value)} {l : List MsgD} (hΦ : ∀ M w, Φ M w → Pin b o cs l M w)
    (h : (∀ j, (hj : j < l.length) → ∃ p c, cs.getD j [] = l[j].cells p c ∧ l[j].deltas.length ≤ c ∧ c ≤ maxLen ∧ l[j].Ok) → GivesIn Φ Tryz.prog f args v) : GivesIn Φ Tryz.prog f args v :=
  ⟨fun W w S c => (h fun j hj => pin_msg (hΦ _ _ c.phi) hj).go W w S c⟩

set_option maxHeartbeats 1000000 in
theorem rSameList_in {Φ : PW} [Stable Φ] (p p' : Option Addr) (cap cap' : Nat) (l : List MsgD) (hΦ : ∀ M w, Φ M w → Sl M w p l) (hΨ : ∀ M w, Φ M w → Sl M w p' l) (hlen : l.length ≤ 9223372036854775807) :
    GivesIn Φ Tryz.prog F.errataref36_SameList #[.slice p l.length cap, .slice p' l.length cap'] (.bool true) := by
  refine .pinned hΦ fun b o cs hp => .pinned (fun M w h => hΨ M w h.1) fun b' o' cs' hp' => ?_
  refine in_msgs (fun M w h => h.1.2) fun hcs => in_msgs (fun M w h => h.2) fun hcs' => ?_
  refine gives_in (Oerrataref36_SameList_run p l.length cap p' l.length cap') fun W R => ?_
  refine Br.intro (fun h => by simp at h) (fun h => ?_)
  refine exI_mk (fun n R' Φ' k => ∃ i : Nat, n = i ∧ i ≤ l.length ∧ R' = R ∧ Φ' = (fun M w => (Φ M w ∧ Pin b o cs l M w) ∧ Pin b' o' cs' l M w) ∧ k = l.length - i) ⟨⟨R, _, _, inferInstance, fun w F c => c, 0, rfl, Nat.zero_le _, rfl, rfl, rfl⟩, ?_⟩
  rintro n R1 Φ1 k _ ⟨i, rfl, hi, rfl, rfl, rfl⟩
  refine Br.intro (fun hlt => ?_) (fun hge => fun w G cx => ⟨rfl, cx.left⟩)
  have hlt : i < l.length := by simpa using hlt
  obtain ⟨q, qc, he, hq1, hq2, _⟩ := hcs i hlt
  obtain ⟨q', qc', he', hq1', hq2', _⟩ := hcs' i hlt
  have hp := hp (by omega)
  have hp' := hp' (by omega)
  refine ⟨R1, _, inferInstance, fun w G cx => cx, by omega, ptrK_intro b o hp ⟨by omega, ptrK_intro b' o' hp' fun w G cx => ⟨l[i].kind, l[i].node, l[i].inp, l[i].bucket, l[i].n, q, l[i].deltas.length, qc, pin_msgAt cx.phi.1.2 hlt he, fun w G cx => ⟨l[i].kind, l[i].node, l[i].inp, l[i].bucket, l[i].n, q', l[i].deltas.length, qc', pin_msgAt cx.phi.2 hlt he', fun w G cx => ?_⟩⟩⟩⟩
  refine (rSame_in (Φ := fun M w => (Φ M w ∧ Pin b o cs l M w) ∧ Pin b' o' cs' l M w) q q' qc qc' l[i] (fun M w h => pin_msgSl h.1.2 hlt he) (fun M w h => pin_msgSl h.2 hlt he') (len_max hq1 hq2)).use cx fun w cx => ⟨_, rfl, R1, _, inferInstance, cx, fun w G cx => cx, ?_⟩
  exact Br.intro (fun h => by simp at h) (fun _ => ⟨by unfold I64; omega, R1, _, l.length - (i + 1), inferInstance, fun w G cx => cx, ⟨i + 1, rfl, hlt, rfl, rfl, rfl⟩, by omega⟩)

/-! ### few -/
set_option maxHeartbeats 1000000 in
theorem Few36_in {Φ : PW} [Stable Φ] (p : Option Addr) (cap : Nat) (m : MsgD) (hΦ : ∀ M w, Φ M w → Sl M w p m.deltas) (hlen : m.deltas.length ≤ 9223372036854775807) :
    GivesP Φ Tryz.prog F.errataref36_Few #[m.v p cap] fun v => ∃ b, v = .bool b ∧ (b = true → m.Small) := by
  refine .pinned hΦ fun b o cs hp => .cells (fun M w h => h.2) fun hcs => ?_
  refine gives_p (Berrataref36_Few_run m.kind m.node m.inp m.bucket m.n p m.deltas.length cap) fun W R => ?_
  refine fun _ => exI_mk (fun n R' Φ' k => ∃ i : Nat, n = i ∧ i ≤ m.deltas.length ∧ R' = R ∧ Φ' = (fun M w => Φ M w ∧ Pin b o cs m.deltas M w) ∧ k = m.deltas.length - i ∧ ∀ j, (hj : j < m.deltas.length) → j < i → m.deltas[j].row.length ≤ 12) ⟨⟨R, _, _, inferInstance, fun w F c => c, 0, rfl, Nat.zero_le _, rfl, rfl, rfl, fun j hj h => by omega⟩, ?_⟩
  rintro n R1 Φ1 k _ ⟨i, rfl, hi, rfl, rfl, rfl, hok⟩
  refine Br.intro (fun hlt => ?_) (fun hge => fun w G cx => ⟨⟨_, rfl, fun h => ?_⟩, cx.left⟩)
  · have hlt : i < m.deltas.length := by simpa using hlt
    have hp := hp (by omega)
    obtain ⟨q, qc, he, hq1, hq2, _, _⟩ := hcs i hlt
    refine ⟨by omega, ptrK_intro b o hp fun w G cx => ⟨q, m.deltas[i].row.length, qc, pin_rowAt cx.phi.2 hlt he 1 (by simp), Br.intro (fun h => fun w G cx => ⟨⟨_, rfl, fun h => by cases h⟩, cx.left⟩) (fun hrow => ?_)⟩⟩
    have hrow : m.deltas[i].row.length ≤ 12 := by have := of_decide_eq_false hrow; omega
    have hth : There q m.deltas[i].row.length := (pin_row cx.phi.2 hlt he).there
    refine exI_mk (fun n R' Φ' k => ∃ a : Nat, n = a ∧ a ≤ m.deltas[i].row.length ∧ R' = R1 ∧ Φ' = (fun M w => Φ M w ∧ Pin b o cs m.deltas M w) ∧ k = m.deltas[i].row.length - a) ⟨⟨R1, _, _, inferInstance, fun w F c => c, 0, rfl, Nat.zero_le _, rfl, rfl, rfl⟩, ?_⟩
    rintro n R2 Φ2 k _ ⟨a, rfl, ha, rfl, rfl, rfl⟩
    refine ⟨by omega, ptrK_intro b o hp fun w G cx => ⟨q, m.deltas[i].row.length, qc, pin_rowAt cx.phi.2 hlt he 1 (by simp), Br.intro (fun h => ?_) (fun h => ?_)⟩⟩
    · have h : a < m.deltas[i].row.length := by simpa using h
      obtain ⟨b2, o2, hq⟩ := hth (by omega)
      refine ⟨by omega, ptrK_intro b o hp fun w G cx => ⟨q, m.deltas[i].row.length, qc, pin_rowAt cx.phi.2 hlt he 1 (by simp), by omega, ptrK_intro b2 o2 hq fun w G cx => ⟨m.deltas[i].row[a].text, ?_, Br.intro (fun h => fun w G cx => ⟨⟨_, rfl, fun h => by cases h⟩, cx.left⟩) (fun _ => ⟨by unfold I64; omega, R2, _, m.deltas[i].row.length - (a + 1), inferInstance, fun w F c => c, ⟨a + 1, rfl, h, rfl, rfl, rfl⟩, by omega⟩)⟩⟩⟩
      have h1 := pin_row cx.phi.2 hlt he
      rw [hq] at h1
      exact sl_val h1 h 2 (by simp)
    · exact ⟨by unfold I64; omega, R2, _, m.deltas.length - (i + 1), inferInstance, fun w F c => c, ⟨i + 1, rfl, hlt, rfl, rfl, rfl, fun j hj hji => by
        rcases Nat.lt_or_ge j i with h' | h'
        · exact hok j hj h'
        · have : j = i := by omega
          subst this
          exact hrow⟩, by omega⟩
  · have hge : i = m.deltas.length := Nat.le_antisymm hi (by simpa using hge)
    have h := of_decide_eq_true h
    refine ⟨by omega, fun x hx => ?_⟩
    obtain ⟨j, hj, rfl⟩ := List.getElem_of_mem hx
    have := hok j hj (by omega)
    omega

/-! ### right -/
theorem right_in {Φ : PW} [Stable Φ] (p : Option Addr) (cap : Nat) (m : MsgD) (hΦ : ∀ M w, Φ M w → Sl M w p m.deltas) (hlen : m.deltas.length ≤ 9223372036854775807) :
    GivesP Φ Tryz.prog F.erratalaw36_right #[m.v p cap] fun v => ∃ b, v = .bool b := by
  refine .pinned hΦ fun b o cs hp => .cells (fun M w h => h.2) fun hcs => ?_
  refine gives_p (Berratalaw36_right_run m.kind m.node m.inp m.bucket m.n p m.deltas.length cap) fun W R => ?_
  refine fun _ _ => exI_mk (fun n a0 a1 a2 a3 a4 _ _ _ R' Φ' k => ∃ i : Nat, n = i ∧ i ≤ m.deltas.length ∧ a0 = 0 ∧ a1 = 0 ∧ a2 = 0 ∧ a3 = 0 ∧ a4 = 0 ∧ R' = R ∧ Φ' = (fun M w => Φ M w ∧ Pin b o cs m.deltas M w) ∧ k = m.deltas.length - i) ⟨⟨R, _, _, inferInstance, fun w F c => c, 0, rfl, Nat.zero_le _, rfl, rfl, rfl, rfl, rfl, rfl, rfl, rfl⟩, ?_⟩
  rintro n _ _ _ _ _ _ _ _ R1 Φ1 k _ ⟨i, rfl, hi, rfl, rfl, rfl, rfl, rfl, rfl, rfl, rfl⟩
  refine Br.intro (fun hlt => ?_) (fun hge => fun w G cx => ⟨⟨_, rfl⟩, cx.left⟩)
  have hlt : i < m.deltas.length := by simpa using hlt
  obtain ⟨q, qc, he, hq1, hq2, _, _⟩ := hcs i hlt
  refine ⟨by omega, ptrK_intro b o (hp (by omega)) fun w G cx => ⟨q, m.deltas[i].row.length, qc, pin_rowAt cx.phi.2 hlt he 1 (by simp), fun k w G cx => ?_⟩⟩
  have hel : Elems (dom (Own.blk k [.int .i64 0, .slice q m.deltas[i].row.length qc, .int .i64 1] 62 :: (R1 ++ G))) w [.int .i64 0, .slice q m.deltas[i].row.length qc, .int .i64 1] [(⟨0, m.deltas[i].row, 1⟩ : DeltaD)] :=
    Elems.one (rep_delta (x := ⟨0, m.deltas[i].row, 1⟩) hq1 hq2 (by show I64 0; unfold I64; omega) (by show I64 1; unfold I64; omega) (pin_row cx.phi.2 hlt he))
  obtain ⟨cx1, hsl⟩ := cx.freezeBlk hel
  have hst : Stable (fun M w => (Φ M w ∧ Pin b o cs m.deltas M w) ∧ Sl M w (some ⟨k, 0, none⟩) [(⟨0, m.deltas[i].row, 1⟩ : DeltaD)]) :=
    have h2 := instStableSl (some ⟨k, 0, none⟩) [(⟨0, m.deltas[i].row, 1⟩ : DeltaD)]
    instStableAnd (fun M w => Φ M w ∧ Pin b o cs m.deltas M w) (fun M w => Sl M w (some ⟨k, 0, none⟩) [(⟨0, m.deltas[i].row, 1⟩ : DeltaD)])
  refine (rRight_in (Φ := fun M w => (Φ M w ∧ Pin b o cs m.deltas M w) ∧ Sl M w (some ⟨k, 0, none⟩) [(⟨0, m.deltas[i].row, 1⟩ : DeltaD)]) (some ⟨k, 0, none⟩) 1 ⟨0, 0, 0, 0, 0, [⟨0, m.deltas[i].row, 1⟩]⟩ (fun _ _ h => h.2) (by simp)).use (cx1.add hsl) fun w cx => ⟨_, rfl, R1, fun M w => Φ M w ∧ Pin b o cs m.deltas M w, inferInstance, cx.fst, ?_⟩
  exact Br.intro (fun h => fun w G cx => ⟨⟨_, rfl⟩, cx.left⟩) (fun _ => ⟨by unfold I64; omega, R1, _, m.deltas.length - (i + 1), inferInstance, fun w G cx => cx, ⟨i + 1, rfl, hlt, rfl, rfl, rfl, rfl, rfl, rfl, rfl, rfl⟩, by omega⟩)

end Go.Proofs.YtfpgbejdlikpgaaGreatDoor
end

/-
  The conditions of the walks of some functions, one formula each; 'B<f>_run' says that they suffice. The formulas are printed by a program; the kernel compares them with the functions' code.
-/
section
namespace Go.Proofs.YtfpgbejdlikpgaaGreatDoor
set_option linter.unusedVariables false
set_option linter.unusedSimpArgs false
open Go.Vc

/-- (*channel.Channel).Len -/
def Qchannel_Channel_Len (cB cO : Nat) (w : World) (J : Value → World → Prop) : Prop :=
  ∃ (n0 : Int), w.cell? (Addr.mk cB (cO + 25) none) = some (Value.int IntKind.i64 n0) ∧ J (Value.int IntKind.i64 n0) w

theorem Qchannel_Channel_Len_run (cB cO : Nat) (w : World) (J : Value → World → Prop) (h : Qchannel_Channel_Len cB cO w J) : Calls Tryz.prog F.channel_Channel_Len #[.pointer (some ⟨cB, cO, none⟩)] w fun e w' => ∃ v, e = .returned v ∧ J v w' :=
  vcF_sound (H := { keep := some [0, 2] }) (by rw [show vcF Tryz.prog { keep := some [0, 2] } F.channel_Channel_Len #[.pointer (some ⟨cB, cO, none⟩)] w J = Qchannel_Channel_Len cB cO w J by kernel_rfl]; exact h)

/-- (*channel.Channel).Free -/
def Qchannel_Channel_Free (cB cO : Nat) (w : World) (J : Value → World → Prop) : Prop :=
  ∃ (n0 : Int), w.cell? (Addr.mk cB (cO + 25) none) = some (Value.int IntKind.i64 n0) ∧ I64 (4 - n0) ∧ J (Value.int IntKind.i64 (4 - n0)) w

theorem Qchannel_Channel_Free_run (cB cO : Nat) (w : World) (J : Value → World → Prop) (h : Qchannel_Channel_Free cB cO w J) : Calls Tryz.prog F.channel_Channel_Free #[.pointer (some ⟨cB, cO, none⟩)] w fun e w' => ∃ v, e = .returned v ∧ J v w' :=
  vcF_sound (H := { keep := some [0, 2] }) (by rw [show vcF Tryz.prog { keep := some [0, 2] } F.channel_Channel_Free #[.pointer (some ⟨cB, cO, none⟩)] w J = Qchannel_Channel_Free cB cO w J by kernel_rfl]; exact h)

/-- (*channel.Channel).Sent -/
def Qchannel_Channel_Sent (cB cO : Nat) (w : World) (J : Value → World → Prop) : Prop :=
  ∃ (n0 : Int), w.cell? (Addr.mk cB (cO + 26) none) = some (Value.int IntKind.i64 n0) ∧ J (Value.int IntKind.i64 n0) w

theorem Qchannel_Channel_Sent_run (cB cO : Nat) (w : World) (J : Value → World → Prop) (h : Qchannel_Channel_Sent cB cO w J) : Calls Tryz.prog F.channel_Channel_Sent #[.pointer (some ⟨cB, cO, none⟩)] w fun e w' => ∃ v, e = .returned v ∧ J v w' :=
  vcF_sound (H := { keep := some [0, 2] }) (by rw [show vcF Tryz.prog { keep := some [0, 2] } F.channel_Channel_Sent #[.pointer (some ⟨cB, cO, none⟩)] w J = Qchannel_Channel_Sent cB cO w J by kernel_rfl]; exact h)

end Go.Proofs.YtfpgbejdlikpgaaGreatDoor
end

/-
  The walk of small.
-/
section
set_option linter.unusedVariables false
set_option linter.unusedSimpArgs false
namespace Go.Proofs.YtfpgbejdlikpgaaGreatDoor
open Go.Vc

theorem Len_q {w : World} {b : Nat} {n : Int} (h : w.cell? ⟨b, 25, none⟩ = some (.int .i64 n)) : Calls Tryz.prog F.channel_Channel_Len #[.pointer (some ⟨b, 0, none⟩)] w fun e w' => e = .returned (.int .i64 n) ∧ w' = w :=
  (Qchannel_Channel_Len_run b 0 w (fun u w' => u = .int .i64 n ∧ w' = w) ⟨n, by rw [Nat.zero_add]; exact h, rfl, rfl⟩).mono fun e w' ⟨v, h1, h2, h3⟩ => ⟨by rw [h1, h2], h3⟩

theorem Free_q {w : World} {b : Nat} {n : Int} (h : w.cell? ⟨b, 25, none⟩ = some (.int .i64 n)) (h0 : 0 ≤ n) (h4 : n ≤ 4) : Calls Tryz.prog F.channel_Channel_Free #[.pointer (some ⟨b, 0, none⟩)] w fun e w' => e = .returned (.int .i64 (4 - n)) ∧ w' = w :=
  (Qchannel_Channel_Free_run b 0 w (fun u w' => u = .int .i64 (4 - n) ∧ w' = w) ⟨n, by rw [Nat.zero_add]; exact h, by unfold I64; omega, rfl, rfl⟩).mono fun e w' ⟨v, h1, h2, h3⟩ => ⟨by rw [h1, h2], h3⟩

theorem Sent_q {w : World} {b : Nat} {n : Int} (h : w.cell? ⟨b, 26, none⟩ = some (.int .i64 n)) : Calls Tryz.prog F.channel_Channel_Sent #[.pointer (some ⟨b, 0, none⟩)] w fun e w' => e = .returned (.int .i64 n) ∧ w' = w :=
  (Qchannel_Channel_Sent_run b 0 w (fun u w' => u = .int .i64 n ∧ w' = w) ⟨n, by rw [Nat.zero_add]; exact h, rfl, rfl⟩).mono fun e w' ⟨v, h1, h2, h3⟩ => ⟨by rw [h1, h2], h3⟩

abbrev markM (n : Int) : MsgD := ⟨2, 0, 0, 0, n, []⟩
theorem mark_g (n : Int) : Gives Tryz.prog F.erratalaw36_mark #[.int .i64 n] ((markM n).v none 0) :=
  gives_of (Berratalaw36_mark_run n) fun W R Φ _ => fun _ w G c => ⟨rfl, c.left⟩

theorem mark_right (i : Nat) (h : i ≤ 4) : rightM (markM i) = true := by
  match i, h with
  | 0, _ => rfl
  | 1, _ => rfl
  | 2, _ => rfl
  | 3, _ => rfl
  | 4, _ => rfl

theorem mark_ok (i : Nat) (h : i ≤ 4) : (markM i).Ok := ⟨by show I64 2; unfold I64; omega, by show I64 0; unfold I64; omega, by show I64 0; unfold I64; omega, by show I64 0; unfold I64; omega, by show I64 i; unfold I64; omega⟩

def marks (i : Nat) : List MsgD := (List.range i).map fun k => markM (k : Nat)
theorem marks_len (i : Nat) : (marks i).length = i := by simp [marks]
theorem marks_succ (i : Nat) : marks (i + 1) = marks i ++ [markM (i : Nat)] := by unfold marks; rw [List.range_succ, List.map_append]; rfl

/-- send, with what stays known of the channel -/
theorem Send_in {W w : World} {S : List Own} {Φ : PW} [Stable Φ] {b : Nat} {cs : List Value} {m : MsgD} {p : Option Addr} {cap : Nat} {q : List MsgD} {first sent : Nat} (c : Ctx W w (.blk b cs 59 :: S) (fun M w => Φ M w ∧ ChanS cs q first M w)) (hc : ChanC cs q first sent)
    (hm : ∀ M w, Φ M w → Sl M w p m.deltas) (hok : m.Ok) (hr : rightM m = true) (hq : q.length < 4) (hs : sent < 1000000) {K : Ending → World → Prop}
    (hk : ∀ cs' w', ChanC cs' (q ++ [m]) first (sent + 1) → Ctx W w' (.blk b cs' 59 :: S) (fun M w => Φ M w ∧ ChanS cs' (q ++ [m]) first M w) → K (.returned (.int .i64 0)) w') :
    Calls Tryz.prog F.channel_Channel_Send #[.pointer (some ⟨b, 0, none⟩), m.v p cap] w K := by
  have hsm := right_small hr
  refine Send_ok (Φ := fun M w => Φ M w ∧ ChanS cs q first M w) c hc (fun M w h => hm M w h.1) (by have := hsm.1; omega) hr hq hs fun p' cap' w' h1 h2 cx => ?_
  exact hk _ w' (hc.send hq rfl hsm) (cx.weak fun M w h => ⟨h.1.1, h.1.2.send hc.len hq hc.lt4 (rep_msg hok h1 h2 h.2)⟩)

theorem Take_in {W w : World} {S : List Own} {Φ : PW} [Stable Φ] {b : Nat} {cs : List Value} {first sent : Nat} {m : MsgD} {q : List MsgD} (c : Ctx W w (.blk b cs 59 :: S) (fun M w => Φ M w ∧ ChanS cs (m :: q) first M w)) (hc : ChanC cs (m :: q) first sent) {K : Ending → World → Prop}
    (hk : ∀ p cap ds rows w' cs', ChanC cs' q ((first + 1) % 4) sent → Fresh ds rows m.deltas → Ctx W w' (.blk b cs' 59 :: (.buf p m.deltas.length cap ds 62 3 :: rows) ++ S) (fun M w => Φ M w ∧ ChanS cs' q ((first + 1) % 4) M w) → K (.returned (.tuple #[m.v p cap, .int .i64 0])) w') :
    Calls Tryz.prog F.channel_Channel_Take #[.pointer (some ⟨b, 0, none⟩)] w K := by
  refine Take_some (Φ := fun M w => Φ M w ∧ ChanS cs (m :: q) first M w) c hc (fun M w h => h.2) fun p cap ds rows w' hf cx => ?_
  have hcnt := hc.count
  exact hk p cap ds rows w' _ hc.take hf (cx.weak fun M w h => ⟨h.1, h.2.take (by simp only [List.length_cons] at hcnt; omega) hc.lt4⟩)

set_option maxHeartbeats 1000000 in
theorem small_g : Gives Tryz.prog F.erratalaw36_small #[] (.bool true) := by
  refine gives_of Berratalaw36_small_run fun W R Φ _ => ?_
  refine fun w G cx => New_use cx fun b w cx => ⟨some ⟨b, 0, none⟩, rfl, .blk b chan0 59 :: R, Φ, inferInstance, cx, Br.intro (fun h => by cases h) (fun _ => ?_)⟩
  refine exI_mk (fun n R' Φ' k => ∃ (i : Nat) (cs : List Value), n = i ∧ i ≤ 4 ∧ R' = .blk b cs 59 :: R ∧ Φ' = (fun M w => Φ M w ∧ ChanS cs (marks i) 0 M w) ∧ k = 4 - i ∧ ChanC cs (marks i) 0 i)
    ⟨⟨.blk b chan0 59 :: R, fun M w => Φ M w ∧ ChanS chan0 (marks 0) 0 M w, _, inferInstance, fun w G c => c.weak fun M w h => ⟨h, chan0_s M w⟩, 0, chan0, rfl, Nat.zero_le _, rfl, rfl, rfl, chan0_c⟩, ?_⟩
  rintro n R1 Φ1 k _ ⟨i, cs, rfl, hi, rfl, rfl, rfl, hc⟩
  refine Br.intro (fun hlt => ?_) (fun hge => ?_)
  · have hlt : i < 4 := by have := of_decide_eq_true hlt; omega
    refine fun w G cx => (mark_g i).use cx fun w cx => ⟨_, _, _, _, _, none, _, 0, rfl, .blk b cs 59 :: R, fun M w => Φ M w ∧ ChanS cs (marks i) 0 M w, inferInstance, cx, fun w G cx => ?_⟩
    refine Send_in (m := markM i) cx hc (fun M w h => Sl.nil) (mark_ok i hi) (mark_right i hi) (by rw [marks_len]; exact hlt) (by omega) fun cs' w hc' cx => ⟨0, rfl, .blk b cs' 59 :: R, fun M w => Φ M w ∧ ChanS cs' (marks i ++ [markM i]) 0 M w, inferInstance, cx, Br.intro (fun h => by simp at h) (fun _ => ?_)⟩
    rw [← marks_succ] at hc'
    exact ⟨by unfold I64; omega, .blk b cs' 59 :: R, fun M w => Φ M w ∧ ChanS cs' (marks (i + 1)) 0 M w, 4 - (i + 1), inferInstance, fun w G cx => by rw [marks_succ]; exact cx, ⟨i + 1, cs', rfl, hlt, rfl, rfl, rfl, hc'⟩, by omega⟩
  · have hge : i = 4 := by have := of_decide_eq_false hge; omega
    subst hge
    refine fun w G cx => (mark_g 4).use cx fun w cx => ⟨_, _, _, _, _, none, _, 0, rfl, .blk b cs 59 :: R, fun M w => Φ M w ∧ ChanS cs (marks 4) 0 M w, inferInstance, cx, fun w G cx => ?_⟩
    refine Send_full (Φ := fun M w => Φ M w ∧ ChanS cs (marks 4) 0 M w) (m := markM 4) cx hc (fun M w h => Sl.nil) (by simp) rfl (marks_len 4) fun w cx => ⟨27, rfl, .blk b cs 59 :: R, fun M w => Φ M w ∧ ChanS cs (marks 4) 0 M w, inferInstance, cx, fun w G cx => ?_⟩
    refine Take_in (m := markM 0) (q := [markM 1, markM 2, markM 3]) cx hc fun p cap ds rows w cs1 hc1 hf cx => ⟨_, _, _, _, _, p, _, cap, _, rfl, .blk b cs1 59 :: R, fun M w => Φ M w ∧ ChanS cs1 [markM 1, markM 2, markM 3] 1 M w, inferInstance, ?_, fun _ w G cx => ?_⟩
    · exact cx.sub (List.Sublist.cons_cons _ (List.Sublist.cons _ (List.sublist_append_right rows _)))
    refine (mark_g 4).use cx fun w cx => ⟨_, _, _, _, _, none, _, 0, rfl, .blk b cs1 59 :: R, fun M w => Φ M w ∧ ChanS cs1 [markM 1, markM 2, markM 3] 1 M w, inferInstance, cx, fun w G cx => ?_⟩
    refine Send_in (m := markM 4) cx hc1 (fun M w h => Sl.nil) (mark_ok 4 (by omega)) rfl (by simp) (by omega) fun cs' w hc' cx => ⟨0, rfl, .blk b cs' 59 :: R, fun M w => Φ M w ∧ ChanS cs' ([markM 1, markM 2, markM 3] ++ [markM 4]) 1 M w, inferInstance, cx, fun w G cx => ?_⟩
    have h25 : w.cell? ⟨b, 25, none⟩ = some (.int .i64 4) := cx.get 0 rfl hc'.c25
    have h26 : w.cell? ⟨b, 26, none⟩ = some (.int .i64 5) := cx.get 0 rfl hc'.c26
    exact ⟨4, fun _ w' e => by subst e; exact Len_q h25, 0, fun _ w' e => by subst e; exact Free_q h25 (by omega) (by omega), 5, fun _ w' e => by subst e; exact Sent_q h26, fun w G cx => ⟨rfl, (cx.left.drop1).fst⟩⟩

end Go.Proofs.YtfpgbejdlikpgaaGreatDoor
end

/-
  Formulas in an older shape (printed by a program for another seat; numbers of types turned).
-/
section
namespace Go.Proofs.YtfpgbejdlikpgaaGreatDoor
set_option linter.unusedVariables false
set_option linter.unusedSimpArgs false
set_option maxRecDepth 100000
open Go.Vc

def Ochannel_Channel_List (cB cO : Nat) (W : World) (R : List Own) (Φ : PW) (J : Value → World → Prop) : Prop :=
  ∀ (w0 : World) (R1 : List Own), Ctx W w0 (R ++ R1) Φ → ∃ (n2 : Int), w0.cell? (Addr.mk cB (cO + 25) none) = some (Value.int IntKind.i64 n2) ∧ exI fun (I3 : Option Addr → Nat → Nat → Int →
  List Own → PW → Nat → Prop) => (∃ (R4 : List Own), ∃ (Φ5 : PW), ∃ (k6 : Nat), Stable Φ5 ∧ (∀ (w7 : World) (R8 : List Own), Ctx W w7 (R ++ R8) Φ → Ctx W w7 (R4 ++ R8) Φ5) ∧ I3 none 0 0 0 R4
  Φ5 k6) ∧ ∀ (p9 : Option Addr) (k10 k11 : Nat) (n12 : Int) (R13 : List Own) (I14 : List Nat → World → Prop) (k15 : Nat), Stable I14 → I3 p9 k10 k11 n12 R13 I14 k15 → Br (decide (n12 < n2))
  (∃ (R16 : List Own), ∃ (Φ17 : PW), Stable Φ17 ∧ (∀ (w18 : World) (R19 : List Own), Ctx W w18 (R13 ++ R19) I14 → Ctx W w18 (R16 ++ R19) Φ17) ∧ ∃ (n20 : Int), (∀ (w21 : World) (R22 : List
  Own), Ctx W w21 (R16 ++ R22) Φ17 → ∃ (n23 : Int), w21.cell? (Addr.mk cB (cO + 24) none) = some (Value.int IntKind.i64 n23) ∧ Value.int IntKind.i64 n23 = Value.int IntKind.i64 n20) ∧ I64
  (n20 + n12) ∧ ((4 : Int) = 0 → False) ∧ (0 ≤ (n20 + n12).tmod 4 ∧ (n20 + n12).tmod (4 : Int) < 4) ∧ ∃ (n24 : Int), ∃ (n25 : Int), ∃ (n26 : Int), ∃ (n27 : Int), ∃ (n28 : Int), ∃ (p29 :
  Option Addr), ∃ (k30 : Nat), ∃ (k31 : Nat), (∀ (w32 : World) (R33 : List Own), Ctx W w32 (R16 ++ R33) Φ17 → ∃ (n34 : Int), ∃ (n35 : Int), ∃ (n36 : Int), ∃ (n37 : Int), ∃ (n38 : Int), ∃ (p39
  : Option Addr), ∃ (k40 : Nat), ∃ (k41 : Nat), RowAt w32 cB (cO + ((n20 + n12).tmod 4).toNat * 6) [Value.int IntKind.i64 n34, Value.int IntKind.i64 n35, Value.int IntKind.i64 n36, Value.int
  IntKind.i64 n37, Value.int IntKind.i64 n38, Value.slice p39 k40 k41] ∧ Value.agg #[Value.int IntKind.i64 n34, Value.int IntKind.i64 n35, Value.int IntKind.i64 n36, Value.int IntKind.i64
  n37, Value.int IntKind.i64 n38, Value.slice p39 k40 k41] = Value.agg #[Value.int IntKind.i64 n24, Value.int IntKind.i64 n25, Value.int IntKind.i64 n26, Value.int IntKind.i64 n27, Value.int
  IntKind.i64 n28, Value.slice p29 k30 k31]) ∧ ∀ (w42 : World) (R43 : List Own), Ctx W w42 (R13 ++ R43) I14 → Calls Tryz.prog F.channel_clone #[Value.agg #[Value.int IntKind.i64 n24, Value.int
  IntKind.i64 n25, Value.int IntKind.i64 n26, Value.int IntKind.i64 n27, Value.int IntKind.i64 n28, Value.slice p29 k30 k31]] w42 fun (e44 : Ending) (w45 : World) => ∃ (n46 : Int), ∃ (n47 :
  Int), ∃ (n48 : Int), ∃ (n49 : Int), ∃ (n50 : Int), ∃ (p51 : Option Addr), ∃ (k52 : Nat), ∃ (k53 : Nat), e44 = Ending.returned (Value.agg #[Value.int IntKind.i64 n46, Value.int IntKind.i64
  n47, Value.int IntKind.i64 n48, Value.int IntKind.i64 n49, Value.int IntKind.i64 n50, Value.slice p51 k52 k53]) ∧ ∃ (R54 : List Own), ∃ (Φ55 : PW), Stable Φ55 ∧ Ctx W w45 (R54 ++ R43) Φ55 ∧
  (∀ (w56 : World) (R57 : List Own), Ctx W w56 (R54 ++ R57) Φ55 → Ctx W w56 (R16 ++ R57) Φ17) ∧ ∀ (k58 : Nat), (∀ (w59 : World) (R60 : List Own), Ctx W w59 (Own.blk k58 [Value.int IntKind.i64
  n46, Value.int IntKind.i64 n47, Value.int IntKind.i64 n48, Value.int IntKind.i64 n49, Value.int IntKind.i64 n50, Value.slice p51 k52 k53] 32 :: R54 ++ R60) Φ55 → Ctx W w59 (R16 ++ R60) Φ17)
  ∧ ∀ (w61 : World) (R62 : List Own), Ctx W w61 (Own.blk k58 [Value.int IntKind.i64 n46, Value.int IntKind.i64 n47, Value.int IntKind.i64 n48, Value.int IntKind.i64 n49, Value.int IntKind.i64
  n50, Value.slice p51 k52 k53] 32 :: R54 ++ R62) Φ55 → ∃ (p63 : Option Addr), ∃ (k64 : Nat), ∃ (k65 : Nat), ∃ (w66 : World), Sem.run Tryz.prog (builtin Builtin.append #[41, 41] 41 #[false,
  false] #[Value.slice p9 k10 k11, Value.slice (some (Addr.mk k58 0 none)) 1 1]) w61 = Result.ok (Next.value (Value.slice p63 k64 k65)) w66 ∧ ∃ (R67 : List Own), ∃ (Φ68 : PW), Stable Φ68 ∧
  Ctx W w66 (R67 ++ R62) Φ68 ∧ (∀ (w69 : World) (R70 : List Own), Ctx W w69 (R67 ++ R70) Φ68 → Ctx W w69 (R16 ++ R70) Φ17) ∧ I64 (n12 + 1) ∧ ∃ (R71 : List Own), ∃ (Φ72 : PW), ∃ (k73 : Nat),
  Stable Φ72 ∧ (∀ (w74 : World) (R75 : List Own), Ctx W w74 (R67 ++ R75) Φ68 → Ctx W w74 (R71 ++ R75) Φ72) ∧ I3 p63 k64 k65 (n12 + 1) R71 Φ72 k73 ∧ k73 < k15) (∀ (w76 : World) (R77 : List
  Own), Ctx W w76 (R13 ++ R77) I14 → J (Value.slice p9 k10 k11) w76)

theorem Ochannel_Channel_List_run (cB cO : Nat) {W w : World} {R : List Own} {Φ : PW} [Stable Φ] {J : Value → World → Prop} (c : Ctx W w R Φ) (h : Ochannel_Channel_List cB cO W R Φ J) : Calls Tryz.prog F.channel_Channel_List #[.pointer (some ⟨cB, cO, none⟩)] w fun e w' => ∃ v, e = .returned v ∧ J v w' :=
  vcFS_sound (H := { keep := some [0, 2, 3, 4, 8, 9, 10], stages := [(5, [.late [] [0, 1, 2, 6, 3, 9, 4, 10, 5, 7, 8, 11, 12] [(13, []), (14, []), (15, [16])]])], loops := [(3, [(3, .one (.slice)), (9, .one (.int .i64))], [])] }) (by rw [show vcFS Tryz.prog W { keep := some [0, 2, 3, 4, 8, 9, 10], stages := [(5, [.late [] [0, 1, 2, 6, 3, 9, 4, 10, 5, 7, 8, 11, 12] [(13, []), (14, []), (15, [16])]])], loops := [(3, [(3, .one (.slice)), (9, .one (.int .i64))], [])] } F.channel_Channel_List #[.pointer (some ⟨cB, cO, none⟩)] R Φ J = Ochannel_Channel_List cB cO W R Φ J by kernel_rfl]; exact h) c

def Oerrataref36_Clone (m0 : Int) (m1 : Int) (m2 : Int) (m3 : Int) (m4 : Int) (m5P : Option Addr) (m5N m5C : Nat) (W : World) (R : List Own) (Φ : PW) (J : Value → World → Prop) : Prop :=
  ∀ (b b : Nat), exI fun (I0 : Int → Int → Int → Int → Int → Int → Option Addr → Nat → Nat → List Own → PW → Nat → Prop) => (∃ (R1 : List Own), ∃ (Φ2 : PW), ∃ (k3 : Nat), Stable Φ2 ∧ (∀ (w4 :
  World) (R5 : List Own), Ctx W w4 (R ++ R5) Φ → Ctx W w4 (R1 ++ R5) Φ2) ∧ I0 0 m0 m1 m2 m3 m4 none 0 0 R1 Φ2 k3) ∧ ∀ (n6 n7 n8 n9 n10 n11 : Int) (p12 : Option Addr) (k13 k14 : Nat) (R15 :
  List Own) (I16 : List Nat → World → Prop) (k17 : Nat), Stable I16 → I0 n6 n7 n8 n9 n10 n11 p12 k13 k14 R15 I16 k17 → Br (decide (n6 < (↑m5N : Int))) (∃ (R18 : List Own), ∃ (Φ19 : PW),
  Stable Φ19 ∧ (∀ (w20 : World) (R21 : List Own), Ctx W w20 (R15 ++ R21) I16 → Ctx W w20 (R18 ++ R21) Φ19) ∧ (0 ≤ n6 ∧ n6 < (↑m5N : Int)) ∧ ptrK none m5P fun (k22 k23 : Nat) => (0 ≤ n6 ∧ n6 <
  (↑m5N : Int)) ∧ ptrK none m5P fun (k24 k25 : Nat) => (0 ≤ n6 ∧ n6 < (↑m5N : Int)) ∧ ptrK none m5P fun (k26 k27 : Nat) => ∃ (n28 : Int), (∀ (w29 : World) (R30 : List Own), Ctx W w29 (R18 ++
  R30) Φ19 → ∃ (n31 : Int), w29.cell? (Addr.mk k22 (k23 + n6.toNat * 3) none) = some (Value.int IntKind.i64 n31) ∧ Value.int IntKind.i64 n31 = Value.int IntKind.i64 n28) ∧ ∃ (p32 : Option
  Addr), ∃ (k33 : Nat), ∃ (k34 : Nat), (∀ (w35 : World) (R36 : List Own), Ctx W w35 (R18 ++ R36) Φ19 → ∃ (p37 : Option Addr), ∃ (k38 : Nat), ∃ (k39 : Nat), w35.cell? (Addr.mk k24 (k25 +
  n6.toNat * 3 + 1) none) = some (Value.slice p37 k38 k39) ∧ Value.slice p37 k38 k39 = Value.slice p32 k33 k34) ∧ ∃ (n40 : Int), (∀ (w41 : World) (R42 : List Own), Ctx W w41 (R18 ++ R42) Φ19
  → ∃ (n43 : Int), w41.cell? (Addr.mk k26 (k27 + n6.toNat * 3 + 2) none) = some (Value.int IntKind.i64 n43) ∧ Value.int IntKind.i64 n43 = Value.int IntKind.i64 n40) ∧ ∀ (k44 : Nat), (∀ (w45 :
  World) (R46 : List Own), Ctx W w45 (Own.blk k44 [] 83 :: R15 ++ R46) I16 → Ctx W w45 (R18 ++ R46) Φ19) ∧ ∀ (w47 : World) (R48 : List Own), Ctx W w47 (Own.blk k44 [] 83 :: R15 ++ R48) I16 →
  ∃ (p49 : Option Addr), ∃ (k50 : Nat), ∃ (k51 : Nat), ∃ (w52 : World), Sem.run Tryz.prog (builtin Builtin.append #[60, 60] 60 #[false, false] #[Value.slice (some (Addr.mk k44 0 none)) 0 0,
  Value.slice p32 k33 k34]) w47 = Result.ok (Next.value (Value.slice p49 k50 k51)) w52 ∧ ∃ (R53 : List Own), ∃ (Φ54 : PW), Stable Φ54 ∧ Ctx W w52 (R53 ++ R48) Φ54 ∧ (∀ (w55 : World) (R56 :
  List Own), Ctx W w55 (R53 ++ R56) Φ54 → Ctx W w55 (R18 ++ R56) Φ19) ∧ ∀ (k57 : Nat), (∀ (w58 : World) (R59 : List Own), Ctx W w58 (Own.blk k57 [Value.int IntKind.i64 n28, Value.slice p49
  k50 k51, Value.int IntKind.i64 n40] 62 :: R53 ++ R59) Φ54 → Ctx W w58 (R18 ++ R59) Φ19) ∧ ∀ (w60 : World) (R61 : List Own), Ctx W w60 (Own.blk k57 [Value.int IntKind.i64 n28, Value.slice
  p49 k50 k51, Value.int IntKind.i64 n40] 62 :: R53 ++ R61) Φ54 → ∃ (p62 : Option Addr), ∃ (k63 : Nat), ∃ (k64 : Nat), ∃ (w65 : World), Sem.run Tryz.prog (builtin Builtin.append #[30, 30] 30
  #[false, false] #[Value.slice p12 k13 k14, Value.slice (some (Addr.mk k57 0 none)) 1 1]) w60 = Result.ok (Next.value (Value.slice p62 k63 k64)) w65 ∧ ∃ (R66 : List Own), ∃ (Φ67 : PW),
  Stable Φ67 ∧ Ctx W w65 (R66 ++ R61) Φ67 ∧ (∀ (w68 : World) (R69 : List Own), Ctx W w68 (R66 ++ R69) Φ67 → Ctx W w68 (R18 ++ R69) Φ19) ∧ I64 (n6 + 1) ∧ ∃ (R70 : List Own), ∃ (Φ71 : PW), ∃
  (k72 : Nat), Stable Φ71 ∧ (∀ (w73 : World) (R74 : List Own), Ctx W w73 (R66 ++ R74) Φ67 → Ctx W w73 (R70 ++ R74) Φ71) ∧ I0 (n6 + 1) n7 n8 n9 n10 n11 p62 k63 k64 R70 Φ71 k72 ∧ k72 < k17) (∀
  (w75 : World) (R76 : List Own), Ctx W w75 (R15 ++ R76) I16 → J (Value.agg #[Value.int IntKind.i64 n7, Value.int IntKind.i64 n8, Value.int IntKind.i64 n9, Value.int IntKind.i64 n10,
  Value.int IntKind.i64 n11, Value.slice p12 k13 k14]) w75)

theorem Oerrataref36_Clone_run (m0 : Int) (m1 : Int) (m2 : Int) (m3 : Int) (m4 : Int) (m5P : Option Addr) (m5N m5C : Nat) {W w : World} {R : List Own} {Φ : PW} [Stable Φ] {J : Value → World → Prop} (c : Ctx W w R Φ) (h : Oerrataref36_Clone m0 m1 m2 m3 m4 m5P m5N m5C W R Φ J) : Calls Tryz.prog F.errataref36_Clone #[.agg #[.int .i64 m0, .int .i64 m1, .int .i64 m2, .int .i64 m3, .int .i64 m4, .slice m5P m5N m5C]] w fun e w' => ∃ v, e = .returned v ∧ J v w' :=
  vcFS_sound (H := { keep := some [1, 2, 3, 4, 11], track := [1, 2], stages := [(6, [.held [(0, true), (2, true), (3, true), (8, true), (9, true), (14, true), (15, true), (1, true), (4, true), (10, true), (16, true), (5, true), (11, true), (17, true), (6, true), (12, true), (18, true), (7, false), (13, false), (19, true), (20, false), (21, false), (22, true)], .stage [] (some 23)])], loops := [(4, [(4, .one (.int .i64))], [(1, .agg [.int .i64, .int .i64, .int .i64, .int .i64, .int .i64, .slice])])] }) (by rw [show vcFS Tryz.prog W { keep := some [1, 2, 3, 4, 11], track := [1, 2], stages := [(6, [.held [(0, true), (2, true), (3, true), (8, true), (9, true), (14, true), (15, true), (1, true), (4, true), (10, true), (16, true), (5, true), (11, true), (17, true), (6, true), (12, true), (18, true), (7, false), (13, false), (19, true), (20, false), (21, false), (22, true)], .stage [] (some 23)])], loops := [(4, [(4, .one (.int .i64))], [(1, .agg [.int .i64, .int .i64, .int .i64, .int .i64, .int .i64, .slice])])] } F.errataref36_Clone #[.agg #[.int .i64 m0, .int .i64 m1, .int .i64 m2, .int .i64 m3, .int .i64 m4, .slice m5P m5N m5C]] R Φ J = Oerrataref36_Clone m0 m1 m2 m3 m4 m5P m5N m5C W R Φ J by kernel_rfl]; exact h) c

end Go.Proofs.YtfpgbejdlikpgaaGreatDoor
end

/-
  The walks of the reference's Clone, of spoil, List and few.
-/
section
set_option linter.unusedVariables false
set_option linter.unusedSimpArgs false
namespace Go.Proofs.YtfpgbejdlikpgaaGreatDoor
open Go.Vc

/-! ### the reference's Clone -/
theorem Fresh.nil : Fresh [] [] [] := ⟨rfl, fun j hj => by simp at hj⟩

theorem Fresh.snoc {cs vc : List Value} {rows : List Own} {l : List DeltaD} {x : DeltaD} {q : Option Addr} {c : Nat} (h : Fresh cs rows l) (h1 : x.row.length ≤ c) (h2 : c ≤ maxLen) (h3 : I64 x.time) (h4 : I64 x.n) (h5 : ∀ M w, Elems M w vc x.row) :
    Fresh (cs ++ x.cells q c) (.buf q x.row.length c vc 83 3 :: rows) (l ++ [x]) := by
  refine ⟨by rw [List.length_append, List.length_append, h.len]; simp only [List.length_cons, List.length_nil]; omega, fun j hj => ?_⟩
  rw [List.length_append, List.length_singleton] at hj
  by_cases hlt : j < l.length
  · obtain ⟨q', c', vc', g1, g2, g3, g4, g5, g6, g7⟩ := h.go j hlt
    have hle : (j + 1) * 3 ≤ cs.length := by rw [h.len]; exact Nat.mul_le_mul_right _ hlt
    rw [List.getElem_append_left hlt]
    exact ⟨q', c', vc', by rw [List.drop_append_of_le_length (by omega), List.take_append_of_le_length (by simp; omega), g1], g2, g3, g4, g5, List.mem_cons_of_mem _ g6, g7⟩
  · have : j = l.length := by omega
    subst this
    rw [List.getElem_append_right (Nat.le_refl _)]
    simp only [Nat.sub_self, List.getElem_cons_zero]
    exact ⟨q, c, vc, by rw [← h.len, List.drop_left]; rfl, h1, h2, h3, h4, List.mem_cons_self, h5⟩

set_option maxHeartbeats 1000000 in
theorem rClone_copy {Φ : PW} [Stable Φ] (p : Option Addr) (cap : Nat) (m : MsgD) (hΦ : ∀ M w, Φ M w → Sl M w p m.deltas) (hsm : m.Small) :
    GivesCopy Φ Tryz.prog F.errataref36_Clone #[m.v p cap] m.deltas (fun s => .agg #[.int .i64 m.kind, .int .i64 m.node, .int .i64 m.inp, .int .i64 m.bucket, .int .i64 m.n, s]) := by
  refine ⟨fun W0 w0 S0 c0 => ?_⟩
  obtain ⟨b, o, cs, hp, c1⟩ := c0.pin (hΦ _ _ c0.phi)
  have hcs := cells_of c1 (fun M w h => h.2)
  refine calls_of (Oerrataref36_Clone_run m.kind m.node m.inp m.bucket m.n p m.deltas.length cap (J := fun u w' => ∃ p cap cs rows, u = .agg #[.int .i64 m.kind, .int .i64 m.node, .int .i64 m.inp, .int .i64 m.bucket, .int .i64 m.n, .slice p m.deltas.length cap] ∧ Fresh cs rows m.deltas ∧ Ctx W0 w' (.buf p m.deltas.length cap cs 62 3 :: rows ++ S0) Φ) c1 ?_) fun u w' ⟨p, cap, cs, rows, h1, h2⟩ => ⟨p, cap, cs, rows, by rw [h1], h2⟩
  refine fun _ _ => exI_mk (fun n a0 a1 a2 a3 a4 p' n' c' R' Φ' k => ∃ (i : Nat) (ds : List Value) (rows : List Own), n = i ∧ i ≤ m.deltas.length ∧ n' = i ∧ a0 = m.kind ∧ a1 = m.node ∧ a2 = m.inp ∧ a3 = m.bucket ∧ a4 = m.n ∧ R' = .buf p' i c' ds 62 3 :: rows ++ S0 ∧ Φ' = (fun M w => Φ M w ∧ Pin b o cs m.deltas M w) ∧ k = m.deltas.length - i ∧ Fresh ds rows (m.deltas.take i))
    ⟨⟨.buf none 0 0 [] 62 3 :: [] ++ S0, _, _, inferInstance, fun w G cx => cx.nobuf 62 3, 0, [], [], rfl, Nat.zero_le _, rfl, rfl, rfl, rfl, rfl, rfl, rfl, rfl, rfl, Fresh.nil⟩, ?_⟩
  rintro n _ _ _ _ _ p' i c' R1 Φ1 k _ ⟨_, ds, rows, rfl, hi, rfl, rfl, rfl, rfl, rfl, rfl, rfl, rfl, rfl, hf⟩
  refine Br.intro (fun hlt => ?_) (fun hge => fun w G cx => ?_)
  · have hlt : i < m.deltas.length := by simpa using hlt
    obtain ⟨q, qc, he, hq1, hq2, hq3, hq4⟩ := hcs i hlt
    have hp := hp (by omega)
    have hpin : ∀ {w : World} {R G : List Own}, Ctx W0 w (R ++ G) (fun M w => Φ M w ∧ Pin b o cs m.deltas M w) → Ctx W0 w ([] ++ G) (fun M w => Φ M w ∧ Pin b o cs m.deltas M w) := fun cx => cx.right
    refine ⟨[], fun M w => Φ M w ∧ Pin b o cs m.deltas M w, inferInstance, fun w G cx => hpin cx, by omega, ptrK_intro b o hp ⟨by omega, ptrK_intro b o hp ⟨by omega, ptrK_intro b o hp ⟨m.deltas[i].time, fun w G cx => ⟨_, pin_rowAt cx.phi.2 hlt he 0 (by simp), rfl⟩, q, m.deltas[i].row.length, qc, fun w G cx => ⟨q, m.deltas[i].row.length, qc, pin_rowAt cx.phi.2 hlt he 1 (by simp), rfl⟩, m.deltas[i].n, fun w G cx => ⟨_, pin_rowAt cx.phi.2 hlt he 2 (by simp), rfl⟩, fun k1 => ⟨fun w G cx => hpin (R := .blk k1 [] 83 :: _) cx, fun w G cx => ?_⟩⟩⟩⟩⟩
    obtain ⟨p2, cap2, w2, vc, hrun, cx2⟩ := Ctx.cloned (P := Tryz.prog) (ts := 60) (ty := 60) (kb := #[false, false]) (bytes := 32) (c2 := qc) cx (by kernel_rfl) val_one (fun M w h => pin_row h.2 hlt he) (hsm.2 _ (List.getElem_mem hlt)) (by omega)
    have hvc : ∀ M w, Elems M w vc m.deltas[i].row := fun M w => vals_any cx2.phi.2
    obtain ⟨_, hc1, hc2⟩ := cx2.bufLen 0 rfl
    refine ⟨p2, m.deltas[i].row.length, cap2, w2, hrun, .buf p2 m.deltas[i].row.length cap2 vc 83 3 :: (.buf p' i c' ds 62 3 :: rows ++ S0), fun M w => Φ M w ∧ Pin b o cs m.deltas M w, inferInstance, cx2.fst, fun w G cx => hpin cx, fun k2 => ⟨fun w G cx => hpin (R := .blk k2 _ 62 :: _) cx, fun w G cx => ?_⟩⟩
    have cxp : Ctx W0 w (.blk k2 (m.deltas[i].cells p2 cap2) 62 :: .buf p' i c' ds 62 3 :: (.buf p2 m.deltas[i].row.length cap2 vc 83 3 :: (rows ++ S0) ++ G)) (fun M w => Φ M w ∧ Pin b o cs m.deltas M w) := cx.perm (List.Perm.cons _ (List.Perm.swap _ _ _))
    have hn8 := hsm.1
    obtain ⟨p3, cap3, w3, hrun3, _, cx3⟩ := Ctx.app1 (P := Tryz.prog) (ts := 30) (ty := 30) (kb := #[false, false]) (size := 3) (bytes := 40) cxp (by kernel_rfl) (by omega) rfl rfl (by omega) (by omega)
    refine ⟨p3, i + 1, cap3, w3, hrun3, .buf p3 (i + 1) cap3 (ds ++ m.deltas[i].cells p2 cap2) 62 3 :: (.buf p2 m.deltas[i].row.length cap2 vc 83 3 :: rows) ++ S0, fun M w => Φ M w ∧ Pin b o cs m.deltas M w, inferInstance, cx3, fun w G cx => hpin cx, by unfold I64; omega, _, fun M w => Φ M w ∧ Pin b o cs m.deltas M w, m.deltas.length - (i + 1), inferInstance, fun w G cx => cx, ⟨i + 1, _, _, rfl, hlt, rfl, rfl, rfl, rfl, rfl, rfl, rfl, rfl, rfl, ?_⟩, by omega⟩
    rw [List.take_succ_eq_append_getElem hlt]
    exact hf.snoc hc1 hc2 hq3 hq4 hvc
  · have hge : i = m.deltas.length := Nat.le_antisymm hi (by simpa using hge)
    subst hge
    rw [List.take_length] at hf
    exact ⟨p', c', ds, rows, rfl, hf, cx.left.fst⟩

/-! ### spoil -/
/-- the cells of deltas that are owned with their rows, whatever stands in them -/
structure Loose (cs : List Value) (rows : List Own) (l : List DeltaD) : Prop where
  len : cs.length = l.length * 3
  go : ∀ j, (hj : j < l.length) → ∃ q c vc t, cs[j * 3]? = some (.int .i64 t) ∧ cs[j * 3 + 1]? = some (.slice q l[j].row.length c) ∧ Own.buf q l[j].row.length c vc 83 3 ∈ rows ∧ vc.length = l[j].row.length * 3 ∧ ∀ i, i < l[j].row.length → ∃ x, vc[i * 3 + 1]? = some (.int .i64 x)

end Go.Proofs.YtfpgbejdlikpgaaGreatDoor
end

/-
  The walks of spoil, List and few.
-/
section
set_option linter.unusedVariables false
set_option linter.unusedSimpArgs false
namespace Go.Proofs.YtfpgbejdlikpgaaGreatDoor
open Go.Vc

theorem Loose.setRow {cs : List Value} {rows : List Own} {l : List DeltaD} (h : Loose cs rows l) {j n : Nat} {q : Option Addr} {c : Nat} {vc vc' : List Value} (hj : rows[j]? = some (.buf q n c vc 83 3)) (hl : vc'.length = vc.length)
    (hi : ∀ i : Nat, (∃ x, vc[i * 3 + 1]? = some (.int .i64 x)) → ∃ x, vc'[i * 3 + 1]? = some (.int .i64 x)) : Loose cs (rows.set j (.buf q n c vc' 83 3)) l := by
  refine ⟨h.len, fun k hk => ?_⟩
  obtain ⟨q1, c1, vc1, t, e1, e2, h3, h4, h5⟩ := h.go k hk
  obtain ⟨i, hi'⟩ := List.getElem?_of_mem h3
  have hlt := (List.getElem?_eq_some_iff.1 hj).1
  by_cases hij : j = i
  · subst hij
    rw [hj] at hi'
    simp only [Option.some.injEq, Own.buf.injEq] at hi'
    obtain ⟨rfl, rfl, rfl, rfl, _⟩ := hi'
    exact ⟨q, c, vc', t, e1, e2, List.mem_of_getElem? (i := j) (by rw [List.getElem?_set_self hlt]), by rw [hl, h4], fun i hi2 => hi i (h5 i hi2)⟩
  · exact ⟨q1, c1, vc1, t, e1, e2, List.mem_of_getElem? (i := i) (by rw [List.getElem?_set_ne hij]; exact hi'), h4, h5⟩

/-! ### List -/
theorem chan_at {W w : World} {S : List Own} {Φ : PW} {b : Nat} {cs : List Value} {q : List MsgD} {first : Nat} (c : Ctx W w S Φ) (hS : ∀ M w, Φ M w → ChanS cs q first M w) {k : Nat} (hk : k < q.length) :
    ∃ p0 c0, (cs.drop ((first + k) % 4 * 6)).take 6 = q[k].cells p0 c0 ∧ q[k].deltas.length ≤ c0 ∧ c0 ≤ maxLen ∧ q[k].Ok ∧ ∀ M w, Φ M w → Sl M w p0 q[k].deltas := by
  obtain ⟨p0, c0, he, h1, h2, h3, _⟩ := msg_cells (hS _ _ c.phi k hk)
  refine ⟨p0, c0, he, h1, h2, h3, fun M w h => ?_⟩
  have := hS _ _ h k hk
  rw [he] at this
  exact msg_sl this

set_option maxHeartbeats 2000000 in
theorem List_use {W w : World} {S : List Own} {Φ : PW} [Stable Φ] {b : Nat} {cs : List Value} {first sent : Nat} {q : List MsgD} (c : Ctx W w (.blk b cs 59 :: S) Φ) (hc : ChanC cs q first sent) (hS : ∀ M w, Φ M w → ChanS cs q first M w) {K : Ending → World → Prop}
    (hk : ∀ p cap w', q.length ≤ cap → Ctx W w' (.blk b cs 59 :: S) (fun M w => Φ M w ∧ Sl M w p q) → K (.returned (.slice p q.length cap)) w') : Calls Tryz.prog F.channel_Channel_List #[.pointer (some ⟨b, 0, none⟩)] w K := by
  have hf := hc.lt4
  have hl := hc.len
  have hcnt := hc.count
  have hat := fun k (hk : k < q.length) => chan_at (b := b) c hS hk
  refine (Ochannel_Channel_List_run b 0 (J := fun u w' => K (.returned u) w') c ?_).mono fun e w' ⟨v, he, hj⟩ => by rw [he]; exact hj
  refine fun w G cx => ⟨_, cx.left.get 0 rfl (by rw [Nat.zero_add]; exact hc.c25), ?_⟩
  refine exI_mk (fun p n c' nI R' Φ' k => ∃ (i : Nat) (gs : List Value), nI = i ∧ i ≤ q.length ∧ n = i ∧ R' = .buf p i c' gs 32 6 :: .blk b cs 59 :: S ∧ Φ' = (fun M w => Φ M w ∧ Elems M w gs (q.take i)) ∧ k = q.length - i)
    ⟨⟨.buf none 0 0 [] 32 6 :: .blk b cs 59 :: S, fun M w => Φ M w ∧ Elems M w [] (q.take 0), _, inferInstance, fun w G cx => (cx.weak fun M w h => ⟨h, by rw [List.take_zero]; exact Elems.nil⟩).nobuf 32 6, 0, [], rfl, Nat.zero_le _, rfl, rfl, rfl, rfl⟩, ?_⟩
  rintro p i c' nI R1 Φ1 k _ ⟨_, gs, rfl, hi, rfl, rfl, rfl, rfl⟩
  refine Br.intro (fun hlt => ?_) (fun hge => fun w G cx => ?_)
  · have hlt : i < q.length := by simpa using hlt
    obtain ⟨p0, c0, he, h1, h2, hok, hsl⟩ := hat i hlt
    have hix : (first + i) % 4 < 4 := Nat.mod_lt _ (by omega)
    have htm : ((first : Int) + (i : Int)).tmod 4 = ((first + i) % 4 : Nat) := rfl
    have hsm := hc.small q[i] (List.getElem_mem hlt)
    generalize hme : q[i] = m at he h1 hok hsl hsm
    refine ⟨[.blk b cs 59], Φ, inferInstance, fun w G cx => ?_, (first : Int), fun w G cx => ⟨_, cx.get 0 rfl (by rw [Nat.zero_add]; exact hc.c24), rfl⟩, by unfold I64; omega, by omega, by omega, m.kind, m.node, m.inp, m.bucket, m.n, p0, m.deltas.length, c0, fun w G cx => ⟨m.kind, m.node, m.inp, m.bucket, m.n, p0, m.deltas.length, c0, ?_, rfl⟩, fun w G cx => ?_⟩
    · exact cx.fst.sub (List.Sublist.cons _ (List.Sublist.cons_cons _ (List.sublist_append_right _ _)))
    · rw [htm, Int.toNat_natCast, Nat.zero_add]
      exact cx.row 0 rfl (rows_of (vs := m.cells p0 c0) he)
    · have hst : Stable (fun M w => Elems M w gs (q.take i)) := instStableElems gs (q.take i)
      refine ((clone_copy (Φ := fun M w => Φ M w ∧ Elems M w gs (q.take i)) p0 c0 m (fun M w h => hsl M w h.1) hsm.1 hsm.2).gsl).use cx fun p2 cap2 w hcap hmax cx => ?_
      refine ⟨_, _, _, _, _, p2, _, cap2, rfl, _, fun M w => (Φ M w ∧ Elems M w gs (q.take i)) ∧ Sl M w p2 m.deltas, inferInstance, cx, fun w G cx => ?_, fun k2 => ⟨fun w G cx => ?_, fun w G cx => ?_⟩⟩
      · exact cx.fst.fst.sub (List.Sublist.cons _ (List.Sublist.cons_cons _ (List.sublist_append_right _ _)))
      · exact cx.fst.fst.sub (List.Sublist.cons _ (List.Sublist.cons _ (List.Sublist.cons_cons _ (List.sublist_append_right _ _))))
      · obtain ⟨p', cap', w', hrun, _, cx'⟩ := Ctx.app1 (P := Tryz.prog) (ts := 41) (ty := 41) (kb := #[false, false]) (size := 6) (bytes := 64) cx (by kernel_rfl) (by omega) rfl rfl (by omega) (by omega)
        have hst2 : Stable (fun M w => Φ M w ∧ Elems M w (gs ++ m.cells p2 cap2) (q.take (i + 1))) := inferInstance
        refine ⟨p', i + 1, cap', w', hrun, .buf p' (i + 1) cap' (gs ++ m.cells p2 cap2) 32 6 :: .blk b cs 59 :: S, fun M w => Φ M w ∧ Elems M w (gs ++ m.cells p2 cap2) (q.take (i + 1)), hst2, cx'.weak fun M w h => ⟨h.1.1, ?_⟩, fun w G cx => ?_, by unfold I64; omega, _, _, q.length - (i + 1), hst2, fun w G cx => cx, ⟨i + 1, _, rfl, hlt, rfl, rfl, rfl, rfl⟩, by omega⟩
        · rw [List.take_succ_eq_append_getElem hlt, hme]
          exact h.1.2.snoc (rep_msg hok hcap hmax h.2)
        · exact cx.fst.sub (List.Sublist.cons _ (List.Sublist.cons_cons _ (List.sublist_append_right _ _)))
  · have hge : i = q.length := Nat.le_antisymm hi (by simpa using hge)
    subst hge
    have h := cx.phi.2
    rw [List.take_length] at h
    obtain ⟨cx2, hs, _, hcap, _⟩ := Ctx.freeze (α := MsgD) cx h
    exact hk p c' w hcap (Ctx.left (F := G) (Φ := fun M w => Φ M w ∧ Sl M w p q) ((cx2.add hs).weak fun M w h => ⟨h.1.1, h.2⟩))

/-! ### few -/
structure OpD where
  op : Int
  m : MsgD
instance : Gv OpD := Gv.via (β := Int × MsgD) (fun x => (x.op, x.m)) (fun y => ⟨y.1, y.2⟩) (fun _ => rfl)

abbrev OpD.cells (x : OpD) (p : Option Addr) (c : Nat) : List Value := .int .i64 x.op :: x.m.cells p c

theorem op_cells {M : List Nat} {w : World} {cs : List Value} {x : OpD} (h : Gv.rep M w cs x) : ∃ p c, cs = x.cells p c ∧ x.m.deltas.length ≤ c ∧ c ≤ maxLen ∧ x.m.Ok ∧ Sl M w p x.m.deltas := by
  obtain ⟨_, _, rfl, ⟨rfl, h1⟩, h2⟩ := h
  obtain ⟨p, c, rfl, h3, h4, h5, h6⟩ := msg_cells h2
  exact ⟨p, c, rfl, h3, h4, h5, h6⟩

theorem op_sl {M : List Nat} {w : World} {x : OpD} {p : Option Addr} {c : Nat} (h : Gv.rep M w (x.cells p c) x) : Sl M w p x.m.deltas := by
  obtain ⟨p', c', e, _, _, _, h1⟩ := op_cells h
  simp only [OpD.cells, MsgD.cells, List.cons.injEq, Value.slice.injEq] at e
  rw [e.2.2.2.2.2.2.1.1]
  exact h1

theorem pin_op {M : List Nat} {w : World} {b o : Nat} {cs : List (List Value)} {l : List OpD} (h : Pin b o cs l M w) {j : Nat} (hj : j < l.length) : ∃ p c, cs.getD j [] = l[j].cells p c ∧ l[j].m.deltas.length ≤ c ∧ c ≤ maxLen ∧ l[j].m.Ok := by
  obtain ⟨_, h1, h2⟩ := h j hj
  obtain ⟨p, c, e, g1, g2, g3, _⟩ := op_cells h2
  exact ⟨p, c, e, g1, g2, g3⟩

theorem pin_opSl {M : List Nat} {w : World} {b o : Nat} {cs : List (List Value)} {l : List OpD} (h : Pin b o cs l M w) {j : Nat} (hj : j < l.length) {p : Option Addr} {c : Nat} (e : cs.getD j [] = l[j].cells p c) : Sl M w p l[j].m.deltas := by
  have := (h j hj).2.2
  rw [e] at this
  exact op_sl this

theorem pin_opAt {M : List Nat} {w : World} {b o : Nat} {cs : List (List Value)} {l : List OpD} (h : Pin b o cs l M w) {j : Nat} (hj : j < l.length) {p : Option Addr} {c : Nat} (e : cs.getD j [] = l[j].cells p c) : RowAt w b (o + j * 7) (l[j].cells p c) := by
  have := (h j hj).2.1
  rw [e] at this
  exact this

theorem pin_opMsg {M : List Nat} {w : World} {b o : Nat} {cs : List (List Value)} {l : List OpD} (h : Pin b o cs l M w) {j : Nat} (hj : j < l.length) {p : Option Addr} {c : Nat} (e : cs.getD j [] = l[j].cells p c) : RowAt w b (o + j * 7 + 1) (l[j].m.cells p c) := fun k hk => by
  have := pin_opAt h hj e (k + 1) (by simp at hk ⊢; omega)
  rw [show o + j * 7 + 1 + k = o + j * 7 + (k + 1) by omega]
  simpa using this

abbrev OpCells (cs : List (List Value)) (l : List OpD) : Prop := ∀ j, (hj : j < l.length) → ∃ p c, cs.getD j [] = l[j].cells p c ∧ l[j].m.deltas.length ≤ c ∧ c ≤ maxLen ∧ l[j].m.Ok

set_option maxHeartbeats 1000000 in
theorem few_in {Φ : PW} [Stable Φ] (p : Option Addr) (cap : Nat) (l : List OpD) (n : Int) (b o : Nat) (cs : List (List Value)) (hp : 0 < l.length → p = some ⟨b, o, none⟩) (hΦ : ∀ M w, Φ M w → Pin b o cs l M w) (hcs : OpCells cs l) (hlen : l.length ≤ 9223372036854775807) :
    GivesP Φ Tryz.prog F.erratalaw36_few #[.slice p l.length cap, .int .i64 n] fun v => ∃ b, v = .bool b ∧ (b = true → (∀ x ∈ l, x.m.Small) ∧ (l.length : Int) ≤ n) := by
  refine gives_p (Berratalaw36_few_run p l.length cap n) fun W R => ?_
  refine exI_mk (fun n R' Φ' k => ∃ i : Nat, n = i ∧ i ≤ l.length ∧ R' = R ∧ Φ' = Φ ∧ k = l.length - i ∧ ∀ j, (hj : j < l.length) → j < i → l[j].m.Small) ⟨⟨R, _, _, inferInstance, fun w F c => c, 0, rfl, Nat.zero_le _, rfl, rfl, rfl, fun j hj h => by omega⟩, ?_⟩
  rintro n' R1 Φ1 k _ ⟨i, rfl, hi, rfl, rfl, rfl, hok⟩
  refine Br.intro (fun hlt => ?_) (fun hge => fun w G cx => ⟨⟨_, rfl, fun h => ?_⟩, cx.left⟩)
  · have hlt : i < l.length := by simpa using hlt
    have hp := hp (by omega)
    obtain ⟨q, qc, he, hq1, hq2, _⟩ := hcs i hlt
    refine ⟨by omega, ptrK_intro b o hp fun w G cx => ⟨l[i].m.kind, l[i].m.node, l[i].m.inp, l[i].m.bucket, l[i].m.n, q, l[i].m.deltas.length, qc, pin_opMsg (hΦ _ _ cx.phi) hlt he, fun w G cx => ?_⟩⟩
    refine (Few36_in q qc l[i].m (fun M w h => pin_opSl (hΦ _ _ h) hlt he) (len_max hq1 hq2)).use cx fun v w ⟨bf, hbf, hb⟩ cx => ?_
    subst hbf
    refine ⟨bf, rfl, R1, Φ1, inferInstance, cx, Br.intro (fun h => fun w G cx => ⟨⟨_, rfl, fun h => by cases h⟩, cx.left⟩) (fun h => ⟨by unfold I64; omega, _, Φ1, l.length - (i + 1), inferInstance, fun w F c => c, ⟨i + 1, rfl, hlt, rfl, rfl, rfl, fun j hj hji => ?_⟩, by omega⟩)⟩
    rcases Nat.lt_or_ge j i with h' | h'
    · exact hok j hj h'
    · have : j = i := by omega
      subst this
      exact hb (by simpa using h)
  · have hge : i = l.length := Nat.le_antisymm hi (by simpa using hge)
    have h := of_decide_eq_true h
    refine ⟨fun x hx => ?_, h⟩
    obtain ⟨j, hj, rfl⟩ := List.getElem_of_mem hx
    exact hok j hj (by omega)

end Go.Proofs.YtfpgbejdlikpgaaGreatDoor
end

/-
  Channel: what is owned and laid aside during Send and Clone; the methods, each in one contract.
-/
section
set_option linter.unusedVariables false
set_option linter.unusedSimpArgs false
namespace Go.Proofs.YtfpgbejdlikpgaaGreatDoor
open Go.Vc

section
variable {P : Program} {W w : World} {S S' T G Q : List Own} {Φ Ψ : PW}


/-- what Send answers -/
def SendR (m : MsgD) (q : List MsgD) (sent : Nat) (e : Int) (q' : List MsgD) (n' : Nat) : Prop :=
  (rightM m = false ∧ e = 1 ∧ q' = q ∧ n' = sent) ∨ (rightM m = true ∧ q.length = 4 ∧ e = 27 ∧ q' = q ∧ n' = sent) ∨ (rightM m = true ∧ q.length < 4 ∧ e = 0 ∧ q' = q ++ [m] ∧ n' = sent + 1)

end

end Go.Proofs.YtfpgbejdlikpgaaGreatDoor
end

/-
  Rows, read: in plain Lean, and walked.
-/
section
set_option linter.unusedVariables false
set_option linter.unusedSimpArgs false
namespace Go.Proofs.YtfpgbejdlikpgaaGreatDoor
open Go.Vc


/-! ### in plain Lean -/
def stepV (st : RdS) : ValD × RdS := (⟨(rdInt st).1, (rdInt (rdInt st).2).1, (stepT (rdInt (rdInt st).2).2).1⟩, (stepT (rdInt (rdInt st).2).2).2)
def rowLoop : Nat → RdS → List ValD → Option (List ValD × RdS)
  | 0, st, acc => some (acc, st)
  | n + 1, st, acc => if st.1 = [] then none else rowLoop n (stepV st).2 (acc ++ [(stepV st).1])
def readRowP (l : List UInt8) : Option (List ValD) := match rowLoop (rdNat (l, false)).1.toNat (rdNat (l, false)).2 [] with
  | some (acc, st) => if rdDone st then some acc else none
  | none => none

/-! lengths -/
/-! ### walked -/
section
variable {W w : World} {R G S : List Own} {Φ : PW} {b : Nat} {st : RdS}

end
end Go.Proofs.YtfpgbejdlikpgaaGreatDoor
end

/-
  delta.Read: in plain Lean, and walked.
-/
section
set_option linter.unusedVariables false
set_option linter.unusedSimpArgs false
namespace Go.Proofs.YtfpgbejdlikpgaaGreatDoor
open Go.Vc


/-! ### in plain Lean -/
def stepD (st : RdS) : Option (DeltaD × RdS) := (readRowP (stepT (rdInt st).2).1.data.toList).map fun r => (⟨(rdInt st).1, r, (rdInt (stepT (rdInt st).2).2).1⟩, (rdInt (stepT (rdInt st).2).2).2)
attribute [irreducible] stepD
/-! lengths -/
/-! ### walked -/
section
variable {W w : World} {R G S : List Own} {Φ : PW} {b : Nat} {st : RdS}

end
end Go.Proofs.YtfpgbejdlikpgaaGreatDoor
end

/-
  The encoding of a message, both sides, walked.
-/
section
set_option linter.unusedVariables false
set_option linter.unusedSimpArgs false
namespace Go.Proofs.YtfpgbejdlikpgaaGreatDoor
open Go.Vc

def msgB (m : MsgD) : ByteArray := intB m.kind ++ intB m.node ++ intB m.inp ++ intB m.bucket ++ intB m.n ++ textB (bs (bytesL m.deltas))
theorem msgB_size {m : MsgD} (hok : m.Ok) (hb : (bytesL m.deltas).length ≤ 100000000000) : (msgB m).size ≤ (bytesL m.deltas).length + 200 := by
  have h0 := intB_size hok.kind
  have h1 := intB_size hok.node
  have h2 := intB_size hok.inp
  have h3 := intB_size hok.bucket
  have h4 := intB_size hok.n
  have h5 := textB_size (s := bs (bytesL m.deltas)) (by rw [bs_size]; omega)
  rw [bs_size] at h5
  unfold msgB
  rw [size_app, size_app, size_app, size_app, size_app]
  omega

section
variable {Φ : PW}
theorem MessageBytes_in [Stable Φ] (hT : ∀ M w, Φ M w → TabI M w) {m : MsgD} {p : Option Addr} {c : Nat} (hΦ : ∀ M w, Φ M w → Sl M w p m.deltas) (hok : m.Ok) (hl : m.deltas.length ≤ 400) (hf : ∀ x ∈ m.deltas, Fit x) (hb : (bytesL m.deltas).length ≤ 100000000000) :
    GivesIn Φ Tryz.prog F.channel_MessageBytes #[m.v p c] (.string (msgB m)) := by
  have h0 := intB_size hok.kind
  have h1 := intB_size hok.node
  have h2 := intB_size hok.inp
  have h3 := intB_size hok.bucket
  have h4 := intB_size hok.n
  have h5 := textB_size (s := bs (bytesL m.deltas)) (by rw [bs_size]; omega)
  have h6 : (bs (bytesL m.deltas)).size = (bytesL m.deltas).length := bs_size _
  refine gives_in (Bchannel_MessageBytes_run m.kind m.node m.inp m.bucket m.n p m.deltas.length c) fun W R => fun _ => ?_
  have any : ∀ {w : World} {R G : List Own} {Ψ : PW} [Stable Ψ], Ctx W w (R ++ G) Ψ → Ctx W w ([] ++ G) (fun _ _ => True) := fun cx => (Ctx.right cx).weak fun _ _ _ => trivial
  refine ⟨[], fun _ _ => True, inferInstance, fun w G cx => any cx, fun w G cx => ?_⟩
  refine (Int_in (.inl ⟨hT, hok.kind⟩)).toS cx ⟨fun w G cx => any cx, fun w G cx => (Int_in (.inl ⟨hT, hok.node⟩)).toS cx ⟨fun w G cx => any cx, by show (intB m.kind).size + (intB m.node).size ≤ _; omega, fun w G cx => (Int_in (.inl ⟨hT, hok.inp⟩)).toS cx ⟨fun w G cx => any cx, by show (intB m.kind ++ intB m.node).size + (intB m.inp).size ≤ _; rw [size_app]; omega, fun w G cx => (Int_in (.inl ⟨hT, hok.bucket⟩)).toS cx ⟨fun w G cx => any cx, by show (intB m.kind ++ intB m.node ++ intB m.inp).size + (intB m.bucket).size ≤ _; rw [size_app, size_app]; omega, fun w G cx => (Int_in (.inl ⟨hT, hok.n⟩)).toS cx ⟨fun w G cx => any cx, by show (intB m.kind ++ intB m.node ++ intB m.inp ++ intB m.bucket).size + (intB m.n).size ≤ _; rw [size_app, size_app, size_app]; omega, fun w G cx => ?_⟩⟩⟩⟩⟩
  refine (Bytes28_in p c m.deltas (fun _ => hT) hΦ hl hf).toS cx ⟨fun w G cx => any cx, fun w G cx => (Text_in (s := bs (bytesL m.deltas)) (.inl ⟨hT, by unfold I64; omega⟩) (by omega)).toS cx ⟨fun w G cx => any cx, ?_, fun w G cx => ⟨rfl, cx.left⟩⟩⟩
  show (intB m.kind ++ intB m.node ++ intB m.inp ++ intB m.bucket ++ intB m.n).size + (textB (bs (bytesL m.deltas))).size ≤ _
  rw [size_app, size_app, size_app, size_app]
  omega
theorem MessageBytes36_in [Stable Φ] {m : MsgD} {p : Option Addr} {c : Nat} (hΦ : ∀ M w, Φ M w → Sl M w p m.deltas) (hok : m.Ok) (hc1 : m.deltas.length ≤ c) (hc2 : c ≤ maxLen) (hl : m.deltas.length ≤ 400) (hf : ∀ x ∈ m.deltas, Fit x) (hb : (bytesL m.deltas).length ≤ 100000000000) :
    GivesIn Φ Tryz.prog F.errataref36_MessageBytes #[m.v p c] (.string (msgB m)) := by
  have h0 := intB_size hok.kind
  have h1 := intB_size hok.node
  have h2 := intB_size hok.inp
  have h3 := intB_size hok.bucket
  have h4 := intB_size hok.n
  have h5 := textB_size (s := bs (bytesL m.deltas)) (by rw [bs_size]; omega)
  have h6 : (bs (bytesL m.deltas)).size = (bytesL m.deltas).length := bs_size _
  refine gives_in (Berrataref36_MessageBytes_run m.kind m.node m.inp m.bucket m.n p m.deltas.length c) fun W R => fun _ => ?_
  have any : ∀ {w : World} {R G : List Own} {Ψ : PW} [Stable Ψ], Ctx W w (R ++ G) Ψ → Ctx W w ([] ++ G) (fun _ _ => True) := fun cx => (Ctx.right cx).weak fun _ _ _ => trivial
  refine ⟨[], fun _ _ => True, inferInstance, fun w G cx => any cx, fun w G cx => ?_⟩
  refine ((Int01_g _ hok.kind).in).toS cx ⟨fun w G cx => any cx, fun w G cx => ((Int01_g _ hok.node).in).toS cx ⟨fun w G cx => any cx, by show (intB m.kind).size + (intB m.node).size ≤ _; omega, fun w G cx => ((Int01_g _ hok.inp).in).toS cx ⟨fun w G cx => any cx, by show (intB m.kind ++ intB m.node).size + (intB m.inp).size ≤ _; rw [size_app]; omega, fun w G cx => ((Int01_g _ hok.bucket).in).toS cx ⟨fun w G cx => any cx, by show (intB m.kind ++ intB m.node ++ intB m.inp).size + (intB m.bucket).size ≤ _; rw [size_app, size_app]; omega, fun w G cx => ((Int01_g _ hok.n).in).toS cx ⟨fun w G cx => any cx, by show (intB m.kind ++ intB m.node ++ intB m.inp ++ intB m.bucket).size + (intB m.n).size ≤ _; rw [size_app, size_app, size_app]; omega, fun w G cx => ?_⟩⟩⟩⟩⟩
  refine (RBytes28H (cap := c) (hΦ := ⟨hΦ⟩) hc1 hc2 hl hf).toS cx ⟨fun w G cx => any cx, fun w G cx => ((Text01_g (bs (bytesL m.deltas)) (by omega)).in).toS cx ⟨fun w G cx => any cx, ?_, fun w G cx => ⟨rfl, cx.left⟩⟩⟩
  show (intB m.kind ++ intB m.node ++ intB m.inp ++ intB m.bucket ++ intB m.n).size + (textB (bs (bytesL m.deltas))).size ≤ _
  rw [size_app, size_app, size_app, size_app]
  omega
end
end Go.Proofs.YtfpgbejdlikpgaaGreatDoor
end

