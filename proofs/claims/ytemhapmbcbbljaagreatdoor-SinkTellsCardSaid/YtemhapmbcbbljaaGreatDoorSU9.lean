/-
  Nets of lines, out of a slice that is told or owned; Net, Upto, At; Lines; the reference's net.
-/
import Derived.Test.YtemhapmbcbbljaaGreatDoorSU7
import Derived.Test.YtemhapmbcbbljaaGreatDoorSU8
import Derived.Test.YtemhapmbcbbljaaGreatDoorSU6
import Derived.Shelf.Strconv.AtoiAll
import Derived.Shelf.Small.Wraps
import Derived.Stop.IfaceNil
import Derived.Lib.AtoiErrMem
import Derived.Lib.AtoiAllCases

set_option linter.unusedVariables false
set_option linter.unusedSimpArgs false
section
namespace Go.Proofs.YtemhapmbcbbljaaGreatDoor
open Go.Vc
section
variable {Φ : PW} {q : LP} {st : LedD} {W w : World} {R S G : List Own} {p : Option Addr} {cap : Nat} {l : List LineD} {cs : List Value}
theorem src_row (src : Src S Φ p l cs) {b o i : Nat} (hp : p = some ⟨b, o, none⟩) (c : Ctx W w (S ++ G) Φ) (hi : i < l.length) : ∃ r rc, RowAt w b (o + i * 7) (l[i].cells r rc) ∧ (cs.drop (i * 7)).take 7 = l[i].cells r rc ∧ l[i].row.length ≤ rc ∧ rc ≤ maxLen ∧ l[i].In := by
  obtain ⟨r, rc, he, h1, h2, h3, _⟩ := lrow (src.el _ _ c.phi) hi
  refine ⟨r, rc, fun j hj => ?_, he, h1, h2, h3⟩
  have := src.rd hp c (i * 7 + j) _ (rows_of (vs := l[i].cells r rc) he j hj)
  rw [← Nat.add_assoc] at this
  exact this
theorem src_sl (src : Src S Φ p l cs) {i : Nat} (hi : i < l.length) {r : Option Addr} {rc : Nat} (he : (cs.drop (i * 7)).take 7 = l[i].cells r rc) {M : List Nat} (h : Φ M w) : Sl M w r l[i].row := by
  have := (src.el M w h).2 i hi
  rw [show (Gv.ty LineD).size = 7 from rfl, he] at this
  exact line_row this
theorem pushLD {PS : PW} [Stable PS] {op : Option Addr} {oc : Nat} {ds : List Value} {o : List DeltaD} {x : LineD} {r : Option Addr} {rc kb : Nat} (hx : ∀ M w, PS M w → Sl M w r x.row) (h1 : x.row.length ≤ rc) (h2 : rc ≤ maxLen) (h3 : x.In) (ho : o.length < 10000000)
    (cx : Ctx W w (.blk kb (x.d.cells r rc) 71 :: .buf op o.length oc ds 71 3 :: R ++ G) (fun M w => PS M w ∧ Elems M w ds o)) :
    ∃ p c w', Sem.run Tryz.prog (builtin Builtin.append #[45, 45] 45 #[false, false] #[.slice op o.length oc, .slice (some ⟨kb, 0, none⟩) 1 1]) w = .ok (.value (.slice p (o ++ [x.d]).length c)) w' ∧ Ctx W w' (.buf p (o ++ [x.d]).length c (ds ++ x.d.cells r rc) 71 3 :: R ++ G) (fun M w => PS M w ∧ Elems M w (ds ++ x.d.cells r rc) (o ++ [x.d])) :=
  push1 (x := x.d) (fun M w h => rep_delta (x := x.d) h1 h2 h3.time h3.n (hx M w h)) ho cx
theorem net_len (l : List LineD) : (netP l).length ≤ l.length := Nat.le_trans (consP_len _) (by simp)
end
end Go.Proofs.YtemhapmbcbbljaaGreatDoor
end

section
namespace Go.Proofs.YtemhapmbcbbljaaGreatDoor
open Go.Vc
theorem vInt_g (n : Int) : Gives Tryz.prog F.value_Int #[.int .i64 n] (.agg #[.int .i64 0, .int .i64 n, .string (ByteArray.mk #[])]) :=
  gives_of (Bvalue_Int_run n) fun W R Φ _ => fun _ w G c => ⟨rfl, c.left⟩
theorem vText_g (s : ByteArray) : Gives Tryz.prog F.value_Text #[.string s] (.agg #[.int .i64 1, .int .i64 0, .string s]) :=
  gives_of (Bvalue_Text_run s) fun W R Φ _ => fun _ w G c => ⟨rfl, c.left⟩
theorem vBool_g (b : Bool) : Gives Tryz.prog F.value_Bool #[.bool b] (.agg #[.int .i64 2, .int .i64 (if b = true then 1 else 0), .string (ByteArray.mk #[])]) :=
  gives_of (Bvalue_Bool_run b) fun W R Φ _ => fun _ => Br.intro (fun h => fun w G c => ⟨by rw [if_pos h], c.left⟩) (fun h => fun w G c => ⟨by rw [if_neg (by rw [h]; simp)], c.left⟩)
theorem vRight_g (x : ValD) : Gives Tryz.prog F.value_Right #[x.v] (.bool (rightV3 x)) := by
  refine gives_of (Bvalue_Right_run x.kind x.num x.text) fun W R Φ _ => fun _ => Br.intro (fun h => ?_) (fun h => Br.intro (fun h2 => ?_) (fun h2 => ?_))
  · refine ⟨R, Φ, inferInstance, fun w G c => c, fun w G cx => (vInt_g x.num).use cx fun w c => ⟨0, x.num, ByteArray.mk #[], rfl, R, Φ, inferInstance, c, fun w G c => c, by kernel_rfl, fun w G c => ⟨?_, c.left⟩⟩⟩
    have h := of_decide_eq_true h
    unfold rightV3
    rw [if_pos h, decide_eq_true h, decide_eq_true rfl, Bool.true_and, Bool.true_and, Bool.and_true]
  · refine ⟨R, Φ, inferInstance, fun w G c => c, fun w G cx => (vText_g x.text).use cx fun w c => ⟨1, 0, x.text, rfl, R, Φ, inferInstance, c, fun w G c => c, by kernel_rfl, ?_⟩⟩
    have h := of_decide_eq_false h
    have h2 := of_decide_eq_true h2
    refine Br.intro (fun h3 => fun w G c => ⟨?_, c.left⟩) (fun h3 => fun w G c => ⟨?_, c.left⟩)
    · unfold rightV3
      rw [if_neg h, if_pos h2]
      have : x.num = 0 := by simp at h3; exact h3.2
      rw [decide_eq_true this, Bool.true_and]
    · unfold rightV3
      rw [if_neg h, if_pos h2]
      have : x.num ≠ 0 := by
        intro e
        rw [decide_eq_true h2, decide_eq_true e, decide_eq_true rfl] at h3
        cases h3
      rw [decide_eq_false this, Bool.false_and]
  · have h := of_decide_eq_false h
    have h2 := of_decide_eq_false h2
    have hr : rightV3 x = (decide (x.kind = 2) && (decide (x.num = 0) || decide (x.num = 1)) && decide (x.text = ByteArray.mk #[])) := by unfold rightV3; rw [if_neg h, if_neg h2]
    refine ⟨R, Φ, inferInstance, fun w G c => c, fun w G cx => (vBool_g false).use cx fun w c => ⟨2, 0, ByteArray.mk #[], rfl, R, Φ, inferInstance, c, fun w G c => c, R, Φ, inferInstance, fun w G c => c, by kernel_rfl, ?_⟩⟩
    refine Br.intro (fun h3 => fun w G c => ⟨?_, c.left⟩) (fun h3 => fun w G cx => (vBool_g true).use cx fun w c => ⟨2, 1, ByteArray.mk #[], rfl, R, Φ, inferInstance, c, fun w G c => c, by kernel_rfl, fun w G c => ⟨?_, c.left⟩⟩)
    · rw [hr]
      simp at h3
      simp [h3]
    · rw [hr]
      congr 1
      by_cases k1 : x.kind = 2
      · by_cases k2 : x.text = ByteArray.mk #[]
        · by_cases k3 : x.num = 0
          · rw [k1, k2, k3] at h3
            simp at h3
          · simp [k1, k2, k3]
        · simp [k2]
      · simp [k1]
section
variable {Φ : PW} {q : LP} {st : LedD} {W w : World} {R S G : List Own} {p : Option Addr} {cap : Nat} {r : List ValD}
theorem all1_g (x : ValD) : Gives Tryz.prog F.value_all_1 #[x.v] (.bool (!rightV3 x)) :=
  gives_of (Bvalue_all_1_run x.kind x.num x.text) fun W R Φ _ => fun _ w G cx => (vRight_g x).use cx fun w c => ⟨_, rfl, R, Φ, inferInstance, c, fun w G c => ⟨rfl, c.left⟩⟩
theorem IndexV_in [Stable Φ] (f : FuncId) (g : ValD → Bool) [hΦ : Has Φ (fun M w => Sl M w p r)] (hlen : r.length ≤ maxLen) (hf : okFun Tryz.prog f = true) (cp : Array Value) (hg : ∀ x : ValD, Gives Tryz.prog f (Array.mk (x.v :: cp.toList)) (.bool (g x))) :
    GivesIn Φ Tryz.prog F.slices_IndexFunc_api_Value_api_Value #[.slice p r.length cap, .func (.func f) #[] cp] (.int .i64 (findI g 0 r)) := by
  refine .there (fun M w h => (hΦ.go M w h).there) fun hth => ?_
  refine gives_in (Bslices_IndexFunc_api_Value_api_Value_run p r.length cap f cp) fun W R => ?_
  refine exI_mk (fun n R' Φ' k => ∃ i : Nat, n = i ∧ i ≤ r.length ∧ R' = R ∧ Φ' = Φ ∧ k = r.length - i ∧ findI g 0 r = findI g i (r.drop i)) ⟨⟨R, Φ, _, inferInstance, fun w F c => c, 0, rfl, Nat.zero_le _, rfl, rfl, rfl, rfl⟩, ?_⟩
  rintro n R1 Φ1 k _ ⟨i, rfl, hi, rfl, rfl, rfl, hor⟩
  refine Br.intro (fun hlt => ?_) (fun hge => fun w F cx => ⟨?_, cx.left⟩)
  · have hlt : i < r.length := by simpa using hlt
    rw [findI_drop g r i hlt] at hor
    obtain ⟨b, o, rfl⟩ := hth (by omega)
    refine ⟨by omega, ptrK_intro b o rfl fun w F cx => ⟨r[i].kind, r[i].num, r[i].text, by rw [Int.toNat_natCast]; exact sl_val (hΦ.go _ _ cx.phi) hlt, fun w F cx => ⟨hf, (hg r[i]).use cx fun w cx => ⟨g r[i], rfl, R1, Φ1, inferInstance, cx, Br.intro (fun h => fun w F cx => ⟨?_, cx.left⟩) (fun h => ⟨by unfold I64; unfold maxLen at hlen; omega, R1, Φ1, r.length - (i + 1), inferInstance, fun w F c => c, ⟨i + 1, rfl, hlt, rfl, rfl, rfl, ?_⟩, by omega⟩)⟩⟩⟩⟩
    · rw [hor, if_pos h]
    · rw [hor, if_neg (by rw [h]; simp)]
  · have hge : i = r.length := Nat.le_antisymm hi (by simpa using hge)
    rw [hor, hge, List.drop_length]
    rfl
theorem RightRow_in [Stable Φ] [hΦ : Has Φ (fun M w => Sl M w p r)] : GivesIn Φ Tryz.prog F.value_RightRow #[.slice p r.length cap] (.bool (rightR r)) := by
  refine gives_in (Bvalue_RightRow_run p r.length cap) fun W R => Br.intro (fun h => ?_) (fun h => fun w G cx => ⟨?_, cx.left⟩)
  · have h1 := of_decide_eq_true h
    have hml : r.length ≤ maxLen := by have h2 : (12 : Nat) ≤ maxLen := (by decide); omega
    have hcon : GivesIn Φ Tryz.prog F.slices_ContainsFunc_api_Value_api_Value #[.slice p r.length cap, .func (.func F.value_all_1) #[] #[]] (.bool (r.any fun x => !rightV3 x)) := by
      refine gives_in (Bslices_ContainsFunc_api_Value_api_Value_run p r.length cap F.value_all_1 #[]) fun W R => ?_
      exact fun w G cx => (IndexV_in (r := r) F.value_all_1 (fun x => !rightV3 x) hml (by kernel_rfl) #[] all1_g).toI cx fun w G cx => ⟨by rw [findI_any], cx.left⟩
    have hall : GivesIn Φ Tryz.prog F.value_all #[.slice p r.length cap] (.bool (r.all rightV3)) := by
      refine gives_in (Bvalue_all_run p r.length cap) fun W R => ?_
      refine fun w G cx => hcon.toB cx fun w G cx => ⟨?_, cx.left⟩
      rw [List.all_eq_not_any_not]
    refine fun w G cx => hall.toB cx fun w G cx => ⟨?_, cx.left⟩
    unfold rightR
    rw [decide_eq_true h1, Bool.true_and]
  · unfold rightR
    rw [decide_eq_false (of_decide_eq_false h), Bool.false_and]
end
end Go.Proofs.YtemhapmbcbbljaaGreatDoor
end

section
namespace Go.Proofs.YtemhapmbcbbljaaGreatDoor
open Go.Vc
theorem right_text2 {r : List ValD} (h : rightR r = true) : ∀ v ∈ r, v.text.size ≤ 200 := fun v hv => by
  unfold rightR at h
  rw [Bool.and_eq_true] at h
  have h := List.all_eq_true.1 h.2 v hv
  unfold rightV3 at h
  split at h
  · have h := of_decide_eq_true h
    rw [h]; decide
  · split at h
    · rw [Bool.and_eq_true] at h
      have := of_decide_eq_true h.2
      omega
    · rw [Bool.and_eq_true] at h
      have h := of_decide_eq_true h.2
      rw [h]; decide
section
variable {Φ : PW} {q : LP} {st : LedD} {W w : World} {R S G : List Own} {p : Option Addr} {cap : Nat} {L : List LineD} {cs : List Value}
abbrev Rows7 (cs : List Value) (l : List LineD) : Prop := ∀ i (h : i < l.length), ∃ r rc, (cs.drop (i * 7)).take 7 = l[i].cells r rc ∧ l[i].row.length ≤ rc ∧ rc ≤ maxLen ∧ l[i].In
theorem rows7 {M : List Nat} (h : Elems M w cs L) : Rows7 cs L := fun i hi => by
  obtain ⟨r, rc, he, h1, h2, h3, _⟩ := lrow h hi
  exact ⟨r, rc, he, h1, h2, h3⟩
theorem src_at (src : Src S Φ p L cs) {b o i : Nat} (hp : p = some ⟨b, o, none⟩) (c : Ctx W w (S ++ G) Φ) {x : LineD} {r : Option Addr} {rc : Nat} (he : (cs.drop (i * 7)).take 7 = x.cells r rc) : RowAt w b (o + i * 7) (x.cells r rc) := fun j hj => by
  have := src.rd hp c (i * 7 + j) _ (rows_of (vs := x.cells r rc) he j hj)
  rw [← Nat.add_assoc] at this
  exact this
end
end Go.Proofs.YtemhapmbcbbljaaGreatDoor
end

section
namespace Go.Proofs.YtemhapmbcbbljaaGreatDoor
open Go.Vc
theorem Ctx.rowIn {W w : World} {S : List Own} {Φ : PW} [Stable Φ] {b : Nat} {cs : List Value} {t : TypeId} (c : Ctx W w (.blk b cs t :: S) Φ) : Ctx W w S (fun M w => Φ M w ∧ RowIn b 0 cs M w) := by
  refine c.drop1.add ⟨fun hm => ?_, ?_, c.lt (b := b) (by simp [dom, Own.dom])⟩
  · have h := c.nodup
    have e : dom (.blk b cs t :: S) = b :: dom S := rfl
    rw [e] at h
    exact (List.nodup_cons.1 h).1 hm
  · exact c.row0 0 rfl
section
variable {Φ : PW} {q : KP} {st : SkD} {W w : World} {R S G : List Own} {p : Option Addr} {cap : Nat} {L : List LineD} {cs : List Value}
theorem IndexZ_in [Stable Φ] {l : List Int} [hΦ : Has Φ (fun M w => Sl M w p l)] (f : FuncId) (cp : Array Value) (g : Int → Bool) (hlen : l.length ≤ 10000000) (hf : okFun Tryz.prog f = true) (hg : ∀ x : Int, GivesIn Φ Tryz.prog f (Array.mk (.int .i64 x :: cp.toList)) (.bool (g x))) :
    GivesIn Φ Tryz.prog F.slices_IndexFunc_int_int #[.slice p l.length cap, .func (.func f) #[] cp] (.int .i64 (findI g 0 l)) := by
  refine .there (fun M w h => (hΦ.go M w h).there) fun hth => ?_
  refine gives_in (Bslices_IndexFunc_int_int_run p l.length cap f cp) fun W R => ?_
  refine exI_mk (fun n R' Φ' k => ∃ i : Nat, n = i ∧ i ≤ l.length ∧ R' = R ∧ Φ' = Φ ∧ k = l.length - i ∧ findI g 0 l = findI g i (l.drop i)) ⟨⟨R, Φ, _, inferInstance, fun w F c => c, 0, rfl, Nat.zero_le _, rfl, rfl, rfl, rfl⟩, ?_⟩
  rintro n R1 Φ1 k _ ⟨i, rfl, hi, rfl, rfl, rfl, hor⟩
  refine Br.intro (fun hlt => ?_) (fun hge => fun w F cx => ⟨?_, cx.left⟩)
  · have hlt : i < l.length := by simpa using hlt
    rw [findI_drop g l i hlt] at hor
    obtain ⟨b, o, rfl⟩ := hth (by omega)
    refine ⟨by omega, ptrK_intro b o rfl fun w F cx => ⟨l[i], by rw [Int.toNat_natCast]; exact sl_int (hΦ.go _ _ cx.phi) hlt, fun w F cx => ⟨hf, (hg l[i]).use cx fun w cx => ⟨g l[i], rfl, R1, Φ1, inferInstance, cx, Br.intro (fun h => fun w F cx => ⟨?_, cx.left⟩) (fun h => ⟨by unfold I64; omega, R1, Φ1, l.length - (i + 1), inferInstance, fun w F c => c, ⟨i + 1, rfl, hlt, rfl, rfl, rfl, ?_⟩, by omega⟩)⟩⟩⟩⟩
    · rw [hor, if_pos h]
    · rw [hor, if_neg (by rw [h]; simp)]
  · have hge : i = l.length := Nat.le_antisymm hi (by simpa using hge)
    rw [hor, hge, List.drop_length]
    rfl
theorem ContainsZ_in [Stable Φ] {l : List Int} [hΦ : Has Φ (fun M w => Sl M w p l)] (f : FuncId) (cp : Array Value) (g : Int → Bool) (hlen : l.length ≤ 10000000) (hf : okFun Tryz.prog f = true) (hg : ∀ x : Int, GivesIn Φ Tryz.prog f (Array.mk (.int .i64 x :: cp.toList)) (.bool (g x))) :
    GivesIn Φ Tryz.prog F.slices_ContainsFunc_int_int #[.slice p l.length cap, .func (.func f) #[] cp] (.bool (l.any g)) :=
  gives_in (Bslices_ContainsFunc_int_int_run p l.length cap f cp) fun W R => fun w G cx => (IndexZ_in f cp g hlen hf hg).toI cx fun w G cx => ⟨by rw [findI_any], cx.left⟩
theorem look1_in [Stable Φ] {x : LineD} {r : Option Addr} {rc kb : Nat} [hR : Has Φ (fun M w => RowIn kb 0 (x.cells r rc) M w)] (k : Int) : GivesIn Φ Tryz.prog F.sink_Sink_look_1 (Array.mk (.int .i64 k :: [.pointer (some ⟨kb, 0, none⟩)])) (.bool (decide ((x.row.length : Int) ≤ k))) :=
  gives_in (Bsink_Sink_look_1_run k kb 0) fun W R => fun w G cx => ⟨r, x.row.length, rc, (hR.go _ _ cx.phi).2.1 3 (by show 3 < 7; decide), fun w G cx => ⟨rfl, cx.left⟩⟩
set_option maxHeartbeats 2000000 in
theorem Look_q [Stable Φ] {b : Int} [hF : Has Φ (SkF q st)] (hq : SkQ q st) {n : Nat} (hs : SkS st n) (hn : n ≤ 400000) (src : Src [] Φ p L cs) (hc : Rows7 cs L) (hlen : L.length ≤ 1000000) :
    GivesQ (SkO q st) Φ Tryz.prog F.sink_Sink_look #[snk q, .int .i64 b, .slice p L.length cap] (.int .i64 (lookK st b L)) := by
  have hll := hs.lines
  have hkl := hs.key
  refine gives_q (Bsink_Sink_look_run q.sb 0 b p L.length cap) fun W R => ?_
  unfold lookK
  refine Br.intro (fun h => fun w G cx => ⟨by rw [if_pos (of_decide_eq_true h)], cx.left⟩) (fun h => ?_)
  rw [if_neg (of_decide_eq_false h)]
  refine fun w G cx => (Last_q hq).toI cx ?_
  clear cx
  refine Br.intro (fun h => fun w G cx => ⟨by rw [if_pos (of_decide_eq_true h)], cx.left⟩) (fun h => ?_)
  rw [if_neg (of_decide_eq_false h)]
  have hsrcR : ∀ {i : Nat} (hi : i < L.length) {r : Option Addr} {rc : Nat}, (cs.drop (i * 7)).take 7 = L[i].cells r rc → Has Φ (fun M w => Sl M w r L[i].row) := fun {i} hi {r rc} he => ⟨fun M w h => src_sl src hi he h⟩
  have hkey : Has Φ (fun M w => Sl M w q.kp st.key) := ⟨fun M w h => (hF.go M w h).2.1⟩
  refine exI_mk (fun iI R' Φ' k => ∃ i : Nat, iI = i ∧ i ≤ L.length ∧ R' = SkO q st ++ R ∧ Φ' = Φ ∧ k = L.length - i ∧ L.any (badK st.key b) = (L.drop i).any (badK st.key b)) ⟨⟨_, _, _, inferInstance, fun w G cx => cx, 0, rfl, Nat.zero_le _, rfl, rfl, rfl, rfl⟩, ?_⟩
  rintro iI R1 Φ1 k _ ⟨i, rfl, hi, rfl, rfl, rfl, hor⟩
  refine Br.intro (fun hlt => ?_) (fun hge => ?_)
  · have hlt : i < L.length := by have := of_decide_eq_true hlt; omega
    obtain ⟨bb, o, hp⟩ := src.ptr (by omega)
    obtain ⟨r, rc, he, h1, h2, h3⟩ := hc i hlt
    have hhi := hsrcR hlt he
    rw [List.drop_eq_getElem_cons hlt, List.any_cons] at hor
    have bad : badK st.key b L[i] = true → L.any (badK st.key b) = true := fun h => by rw [hor, h]; rfl
    have stop : L.any (badK st.key b) = true → ∀ {w : World} {G : List Own} {Ψ : PW}, [Stable Ψ] → [Has Ψ Φ1] → Ctx W w ((SkO q st ++ R) ++ G) Ψ → (Value.int .i64 1) = .int .i64 (if L.any (badK st.key b) = true then 1 else if numK ((st.lines.length : Int) + 1) L = false then 25 else 0) ∧ Ctx W w (SkO q st ++ R) Φ1 := fun h {w G Ψ} _ _ cx => ⟨by rw [if_pos h], (Ctx.has cx).left⟩
    refine ⟨by omega, ptrK_intro bb o hp fun w G cx => ⟨L[i].no, L[i].batch, L[i].time, r, L[i].row.length, rc, L[i].n, L[i].cause, L[i].why, by rw [Int.toNat_natCast]; exact src_at (G := (SkO q st ++ R) ++ G) src hp cx he, fun kb w G cx => ⟨cx.can 0 rfl (by show 0 + 7 ≤ 7; decide), fun w2 hw2 => ?_⟩⟩⟩
    have c2 := cx.puts 0 hw2 rfl
    have c3 : Ctx W w2 (.blk kb (L[i].cells r rc) 51 :: ((SkO q st ++ R) ++ G)) Φ1 := c2
    have c4 := Ctx.rowIn c3
    have hR : Has (fun M w => Φ1 M w ∧ RowIn kb 0 (L[i].cells r rc) M w) (fun M w => RowIn kb 0 (L[i].cells r rc) M w) := ⟨fun M w h => h.2⟩
    have stR : ∀ cs : List Value, Stable (fun M w => Φ1 M w ∧ RowIn kb 0 cs M w) := fun cs => inferInstance
    have stR := stR (L[i].cells r rc)
    have hcell : ∀ {w : World} {S : List Own}, Ctx W w S (fun M w => Φ1 M w ∧ RowIn kb 0 (L[i].cells r rc) M w) → ∀ j (hj : j < 7), w.cell? ⟨kb, j, none⟩ = some ((L[i].cells r rc)[j]'hj) := fun {w S} cx j hj => by
      have := cx.phi.2.2.1 j hj
      rw [Nat.zero_add] at this
      exact this
    refine ⟨SkO q st ++ R, fun M w => Φ1 M w ∧ RowIn kb 0 (L[i].cells r rc) M w, stR, c4, fun w G cx => ⟨_, _, _, sk_cell (i := 1) cx rfl, fun w G cx => ?_⟩⟩
    refine (ContainsZ_in (Φ := fun M w => Φ1 M w ∧ RowIn kb 0 (L[i].cells r rc) M w) (l := st.key) F.sink_Sink_look_1 #[.pointer (some ⟨kb, 0, none⟩)] (fun k => decide ((L[i].row.length : Int) ≤ k)) (by omega) (by kernel_rfl) (fun k => look1_in (x := L[i]) (r := r) (rc := rc) (kb := kb) k)).toB cx ?_
    clear cx c4 c3 c2
    refine fun w G cx => ⟨L[i].batch, hcell cx 1 (by decide), Br.intro (fun g1 => fun w G cx => stop (bad ?_) cx) (fun g1 => fun w G cx => ⟨L[i].n, hcell cx 4 (by decide), Br.intro (fun g2 => fun w G cx => stop (bad ?_) cx) (fun g2 => fun w G cx => ⟨r, L[i].row.length, rc, hcell cx 3 (by decide), fun w G cx => (RightRow_in (r := L[i].row)).toB cx ?_⟩)⟩)⟩
    · unfold badK; rw [g1]; rfl
    · unfold badK; rw [g2, Bool.or_true]; rfl
    clear cx
    refine Br.intro (fun g3 => fun w G cx => stop (bad ?_) cx) (fun g3 => ?_)
    · unfold badK; rw [g3, Bool.or_true]; rfl
    have hsh : (st.key.any fun k => decide ((L[i].row.length : Int) ≤ k)) = shortK st.key L[i].row := rfl
    rw [hsh]
    refine Br.intro (fun g4 => fun w G cx => stop (bad ?_) cx) (fun g4 => ?_)
    · unfold badK; rw [g4, Bool.or_true]
    have hok : badK st.key b L[i] = false := by unfold badK; rw [g1, g2, g3, g4]; rfl
    exact ⟨by unfold I64; omega, SkO q st ++ R, Φ1, L.length - (i + 1), inferInstance, fun w G cx => cx.fst, ⟨i + 1, rfl, hlt, rfl, rfl, rfl, by rw [hor, hok]; rfl⟩, by omega⟩
  have hge : i = L.length := by have := of_decide_eq_false hge; omega
  subst hge
  rw [List.drop_length] at hor
  have hor : L.any (badK st.key b) = false := hor
  rw [if_neg (by rw [hor]; simp)]
  refine exI_mk (fun iI R' Φ' k => ∃ i : Nat, iI = i ∧ i ≤ L.length ∧ R' = SkO q st ++ R ∧ Φ' = Φ1 ∧ k = L.length - i ∧ numK ((st.lines.length : Int) + 1) L = numK ((st.lines.length : Int) + 1 + i) (L.drop i)) ⟨⟨_, _, _, inferInstance, fun w G cx => cx, 0, rfl, Nat.zero_le _, rfl, rfl, rfl, by rw [Int.natCast_zero, Int.add_zero]; rfl⟩, ?_⟩
  rintro iI R1 Φ2 k _ ⟨i, rfl, hi, rfl, rfl, rfl, hnu⟩
  refine Br.intro (fun hlt => ?_) (fun hge => fun w G cx => ⟨?_, cx.left⟩)
  · have hlt : i < L.length := by have := of_decide_eq_true hlt; omega
    obtain ⟨bb, o, hp⟩ := src.ptr (by omega)
    obtain ⟨r, rc, he, h1, h2, h3⟩ := hc i hlt
    rw [List.drop_eq_getElem_cons hlt] at hnu
    have hnu : numK ((st.lines.length : Int) + 1) L = (decide (L[i].no = (st.lines.length : Int) + 1 + i) && numK ((st.lines.length : Int) + 1 + i + 1) (L.drop (i + 1))) := hnu
    refine ⟨by omega, ptrK_intro bb o hp fun w G cx => ⟨L[i].no, L[i].batch, L[i].time, r, L[i].row.length, rc, L[i].n, L[i].cause, L[i].why, by rw [Int.toNat_natCast]; exact src_at (G := (SkO q st ++ R) ++ G) src hp cx he, fun _ w G cx => ⟨_, _, _, sk_cell (i := 3) cx rfl, by unfold I64; omega, by unfold I64; omega, Br.intro (fun h => fun w G cx => ⟨?_, cx.left⟩) (fun h => ⟨by unfold I64; omega, _, Φ2, L.length - (i + 1), inferInstance, fun w G cx => cx, ⟨i + 1, rfl, hlt, rfl, rfl, rfl, ?_⟩, by omega⟩)⟩⟩⟩
    · rw [hnu, decide_eq_false (of_decide_eq_true h), Bool.false_and, if_pos rfl]
    · rw [hnu, decide_eq_true (Decidable.not_not.1 (of_decide_eq_false h)), Bool.true_and, show (st.lines.length : Int) + 1 + i + 1 = (st.lines.length : Int) + 1 + ((i + 1 : Nat) : Int) by omega]
  · have hge : i = L.length := by have := of_decide_eq_false hge; omega
    subst hge
    rw [List.drop_length] at hnu
    rw [show numK ((st.lines.length : Int) + 1) L = true from hnu]; rfl
set_option maxHeartbeats 2000000 in
theorem take_use [Stable Φ] {b : Int} [hF : Has Φ (SkF q st)] [hL : Has Φ (fun M w => Sl M w p L)] (hq : SkQ q st) {n : Nat} (hs : SkS st n) (hn : n ≤ 400000) (hlen : L.length ≤ 400000) (c : Ctx W w ((SkO q st ++ R) ++ G) Φ) {K : List Own → PW → Prop}
    (hk : ∀ q' : KP, q'.sb = q.sb → SkQ q' (takeK st b L) → Stable (fun M w => Φ M w ∧ SkF q' (takeK st b L) M w) → K (SkO q' (takeK st b L) ++ R) (fun M w => Φ M w ∧ SkF q' (takeK st b L) M w)) :
    Calls Tryz.prog F.sink_Sink_take #[snk q, .int .i64 b, .slice p L.length cap] w fun e w' => e = .returned (.tuple #[]) ∧ ∃ R' Φ', Stable Φ' ∧ Ctx W w' (R' ++ G) Φ' ∧ K R' Φ' := by
  have hll := hs.lines
  have hbl := hs.bats
  refine (Bsink_Sink_take_run q.sb 0 b p L.length cap (R := (SkO q st ++ R) ++ G) (J := fun v w' => v = .tuple #[] ∧ ∃ R' Φ', Stable Φ' ∧ Ctx W w' (R' ++ G) Φ' ∧ K R' Φ') c ?_).mono fun e w' ⟨v, he, hv, rest⟩ => ⟨by rw [he, hv], rest⟩
  clear c
  refine fun w G2 cx => ⟨_, _, _, sk_cell (q := q) (st := st) (R := R ++ G) (G := G2) (i := 2) (cx.re (by simp)) rfl, fun kb w G2 cx => ?_⟩
  have cy : Ctx W w (.blk kb [.int .i64 b] 3 :: bufZ q.bp q.bc st.bats :: (.blk q.sb (SkB q st) 57 :: bufL q.lp st.lines.length q.lc q.cs :: (R ++ G)) ++ G2) Φ := cx.perm (by simpa using List.Perm.swap _ _ _)
  obtain ⟨p8, c8, w2, hrun, cz⟩ := pushZ (by omega) cy
  refine ⟨p8, _, c8, w2, hrun, .blk q.sb (SkB q st) 57 :: bufZ p8 c8 (st.bats ++ [b]) :: bufL q.lp st.lines.length q.lc q.cs :: (R ++ G), Φ, inferInstance, Ctx.swap cz, fun w G3 cx => ⟨cx.can 0 rfl (by show 2 + 1 ≤ 6; decide), fun w3 hw3 => ?_⟩⟩
  have c5 := cx.put 0 hw3 rfl
  refine ⟨.blk q.sb [.int .i64 st.kind, .slice q.kp st.key.length q.kc, .slice p8 (st.bats ++ [b]).length c8, .slice q.lp st.lines.length q.lc, .int .i64 st.prep, .slice q.ap st.aside.length q.ac] 57 :: bufZ p8 c8 (st.bats ++ [b]) :: bufL q.lp st.lines.length q.lc q.cs :: (R ++ G), Φ, inferInstance, c5, fun w G4 cx => ⟨_, _, _, cx.get 0 rfl rfl, fun w G4 cx => ?_⟩⟩
  clear c5 cz cy
  have cy : Ctx W w (bufL q.lp st.lines.length q.lc q.cs :: .blk q.sb [.int .i64 st.kind, .slice q.kp st.key.length q.kc, .slice p8 (st.bats ++ [b]).length c8, .slice q.lp st.lines.length q.lc, .int .i64 st.prep, .slice q.ap st.aside.length q.ac] 57 :: bufZ p8 c8 (st.bats ++ [b]) :: ((R ++ G) ++ G4)) Φ := cx.perm (List.perm_middle (l₁ := [_, _]) (a := _))
  obtain ⟨p2, c2, w4, news, hrun2, cx3⟩ := Ctx.appAny (P := Tryz.prog) (ts := 33) (ty := 33) (kb := #[false, false]) (bytes := 72) (c2 := cap) (l := L) (q := p) cy (by kernel_rfl) line_one hL.go (by omega) (by omega)
  have hel : st.lines.length + L.length = (st.lines ++ L).length := by rw [List.length_append]
  rw [hel] at hrun2 cx3
  refine ⟨p2, _, c2, w4, hrun2, .blk q.sb [.int .i64 st.kind, .slice q.kp st.key.length q.kc, .slice p8 (st.bats ++ [b]).length c8, .slice q.lp st.lines.length q.lc, .int .i64 st.prep, .slice q.ap st.aside.length q.ac] 57 :: bufZ p8 c8 (st.bats ++ [b]) :: bufL p2 (st.lines ++ L).length c2 (q.cs ++ news) :: (R ++ G), (fun M w => Φ M w ∧ Elems M w (q.cs ++ news) (st.lines ++ L)), inferInstance, ?_, fun w G5 cx => ⟨cx.can 0 rfl (by show 3 + 1 ≤ 6; decide), fun w5 hw5 => ?_⟩⟩
  · exact (cx3.weak fun M w h => ⟨h.1, (hF.go M w h.1).1.append h.2⟩).perm (List.perm_middle (l₁ := [_, _]) (a := _)).symm
  have c6 := cx.put 0 hw5 rfl
  obtain ⟨q2, hq2⟩ : ∃ q2 : KP, q2 = ⟨q.sb, q.kp, q.kc, p8, c8, p2, c2, q.cs ++ news, q.ap, q.ac⟩ := ⟨_, rfl⟩
  have c7 : Ctx W w5 ((SkO q2 (takeK st b L) ++ R) ++ (G ++ G5)) (fun M w => Φ M w ∧ SkF q2 (takeK st b L) M w) := by
    rw [hq2]
    have c8 := c6.weak (Ψ := fun M w => Φ M w ∧ SkF ⟨q.sb, q.kp, q.kc, p8, c8, p2, c2, q.cs ++ news, q.ap, q.ac⟩ (takeK st b L) M w) fun M w h => ⟨h.1, h.2, (hF.go M w h.1).2⟩
    exact c8.re (by simp [takeK])
  have hq' : SkQ q2 (takeK st b L) := skq_of (S := R ++ (G ++ G5)) (c7.re (by simp)) (by rw [hq2]; exact hq.kcap) (by rw [hq2]; exact hq.acap)
  refine ⟨SkO q2 (takeK st b L) ++ (R ++ G), _, inferInstance, c7.re (by simp), fun w G6 cx => ⟨rfl, SkO q2 (takeK st b L) ++ R, _, inferInstance, (cx.left).re (by simp), hk q2 (by rw [hq2]) hq' inferInstance⟩⟩
end
end Go.Proofs.YtemhapmbcbbljaaGreatDoor
end

section
namespace Go.Proofs.YtemhapmbcbbljaaGreatDoor
open Go.Vc
section
variable {Φ : PW} {q : KP} {st : SkD} {W w : World} {R S G : List Own} {p : Option Addr} {cap : Nat} {L : List LineD} {cs : List Value}
theorem Look_to [Stable Φ] {b : Int} [hF : Has Φ (SkF q st)] [hL : Has Φ (fun M w => Sl M w p L)] (hq : SkQ q st) {n : Nat} (hs : SkS st n) (hn : n ≤ 400000) (hlen : L.length ≤ 400000) :
    GivesQ (SkO q st) Φ Tryz.prog F.sink_Sink_look #[snk q, .int .i64 b, .slice p L.length cap] (.int .i64 (lookK st b L)) :=
  ⟨fun W w S c => by
    have hth := (hL.go _ _ c.phi).there
    obtain ⟨cs, c1⟩ := srcOf c (hL.go _ _ c.phi)
    exact ((Look_q (Φ := fun M w => Φ M w ∧ SrcF p L cs M w) hq hs hn (src_fact (Φ := fun M w => Φ M w ∧ SrcF p L cs M w) hth fun M w h => h.2) (rows7 c1.phi.2.2) (by omega)).go W w S c1).mono fun e w' ⟨he, c2⟩ => ⟨he, c2.fst⟩⟩
theorem sk_put {w' : World} [Stable Φ] (cx : Ctx W w (SkO q st ++ S) Φ) {i : Nat} {v : Value} (e : w' = w.setCell ⟨q.sb, i, none⟩ v) : Ctx W w' (.blk q.sb ((SkB q st).set i v) 57 :: bufZ q.bp q.bc st.bats :: bufL q.lp st.lines.length q.lc q.cs :: S) Φ := cx.put 0 e rfl
theorem sk_can (cx : Ctx W w (SkO q st ++ S) Φ) {i : Nat} (h : i < 6) : CanWrite w q.sb i 1 := cx.can 0 rfl (by show i + 1 ≤ 6; omega)
set_option maxHeartbeats 2000000 in
theorem Prepare_use [Stable Φ] {b : Int} [hF : Has Φ (SkF q st)] [hL : Has Φ (fun M w => Sl M w p L)] (hq : SkQ q st) (hI : SkI st) {n : Nat} (hs : SkS st n) (hn : n ≤ 400000) (hlen : L.length ≤ 400000) (c : Ctx W w ((SkO q st ++ R) ++ G) Φ) {K : Int → List Own → PW → Prop}
    (hk : ∀ q' : KP, q'.sb = q.sb → SkQ q' (prepK st b L).2 → Stable (fun M w => Φ M w ∧ SkF q' (prepK st b L).2 M w) → K (prepK st b L).1 (SkO q' (prepK st b L).2 ++ R) (fun M w => Φ M w ∧ SkF q' (prepK st b L).2 M w)) :
    Calls Tryz.prog F.sink_Sink_Prepare #[snk q, .int .i64 b, .slice p L.length cap] w fun e w' => ∃ n, e = .returned (.int .i64 n) ∧ ∃ R' Φ', Stable Φ' ∧ Ctx W w' (R' ++ G) Φ' ∧ K n R' Φ' := by
  refine (Bsink_Sink_Prepare_run q.sb 0 b p L.length cap (R := (SkO q st ++ R) ++ G) (J := fun v w' => ∃ n, v = .int .i64 n ∧ ∃ R' Φ', Stable Φ' ∧ Ctx W w' (R' ++ G) Φ' ∧ K n R' Φ') c ?_).mono fun e w' ⟨v, he, n, hv, rest⟩ => ⟨n, by rw [he, hv], rest⟩
  clear c
  have same : ∀ (m : Int), prepK st b L = (m, st) → ∀ {w : World} {G2 : List Own}, Ctx W w ((SkO q st ++ (R ++ G)) ++ G2) Φ → ∃ n, Value.int .i64 m = .int .i64 n ∧ ∃ R' Φ', Stable Φ' ∧ Ctx W w (R' ++ G) Φ' ∧ K n R' Φ' := fun m h {w G2} cx => by
    have := hk q rfl
    rw [h] at this
    exact ⟨m, rfl, SkO q st ++ R, _, inferInstance, ((cx.left).re (by simp)).weak fun M w h => ⟨h, hF.go M w h⟩, this hq inferInstance⟩
  refine fun w G2 cx => ⟨st.kind, cx.get 0 rfl rfl, ?_⟩
  clear cx
  have e0 : prepK st b L = if st.kind ≠ 0 then (7, st) else if hasK st b = true then (0, st) else if lookK st b L ≠ 0 then (lookK st b L, st) else (0, { st with prep := b, aside := L }) := rfl
  refine Br.intro (fun h => fun w G2 cx => same 7 (by rw [e0, if_pos (of_decide_eq_true h)]) (G2 := G2) (cx.re (by simp))) (fun h => fun w G2 cx => ?_)
  rw [if_neg (of_decide_eq_false h)] at e0
  refine (Has_q hq hI hs hn).toB (R := R ++ G) (cx.re (by simp)) ?_
  clear cx
  refine Br.intro (fun h => fun w G2 cx => same 0 (by rw [e0, if_pos h]) cx) (fun h => fun w G2 cx => ?_)
  rw [if_neg (by rw [h]; simp)] at e0
  refine (Look_to hq hs hn hlen).toI (R := R ++ G) cx ?_
  clear cx
  refine Br.intro (fun h => fun w G2 cx => same _ (by rw [e0, if_pos (of_decide_eq_true h)]) cx) (fun h => fun w G2 cx => ?_)
  rw [if_neg (of_decide_eq_false h)] at e0
  obtain ⟨_, _, g3, _⟩ := look_ok (of_decide_eq_false h)
  refine (CloneK_sl (l := L) (by omega) fun x hx => by have := right_len (bad_right (g3 x hx)).2.2.1; omega).to cx fun p1 c1 f1 f2 st1 => ?_
  clear cx
  refine fun w G3 cx => ⟨sk_can (q := q) (st := st) (S := (R ++ G) ++ G3) (cx.re (by simp)) (by decide), fun w2 hw2 => ?_⟩
  have c2 := sk_put (q := q) (st := st) (S := (R ++ G) ++ G3) (cx.re (by simp)) hw2
  refine ⟨.blk q.sb [.int .i64 st.kind, .slice q.kp st.key.length q.kc, .slice q.bp st.bats.length q.bc, .slice q.lp st.lines.length q.lc, .int .i64 b, .slice q.ap st.aside.length q.ac] 57 :: bufZ q.bp q.bc st.bats :: bufL q.lp st.lines.length q.lc q.cs :: (R ++ G), _, st1, c2, fun w G4 cx => ⟨cx.can 0 rfl (by show 5 + 1 ≤ 6; decide), fun w3 hw3 => ?_⟩⟩
  have c4 := cx.put 0 hw3 rfl
  obtain ⟨q2, hq2⟩ : ∃ q2 : KP, q2 = ⟨q.sb, q.kp, q.kc, q.bp, q.bc, q.lp, q.lc, q.cs, p1, c1⟩ := ⟨_, rfl⟩
  obtain ⟨st2, hst2⟩ : ∃ st2 : SkD, st2 = { st with prep := b, aside := L } := ⟨_, rfl⟩
  rw [← hst2] at e0
  have c7 : Ctx W w3 ((SkO q2 st2 ++ R) ++ (G ++ G4)) (fun M w => Φ M w ∧ SkF q2 st2 M w) := by
    rw [hq2, hst2]
    have c8 := c4.weak (Ψ := fun M w => Φ M w ∧ SkF ⟨q.sb, q.kp, q.kc, q.bp, q.bc, q.lp, q.lc, q.cs, p1, c1⟩ { st with prep := b, aside := L } M w) fun M w h => ⟨h.1, (hF.go M w h.1).1, (hF.go M w h.1).2.1, h.2⟩
    exact c8.re (by simp)
  have hq' : SkQ q2 st2 := skq_of (S := R ++ (G ++ G4)) (c7.re (by simp)) (by rw [hq2, hst2]; exact hq.kcap) (by rw [hq2, hst2]; exact ⟨f1, f2⟩)
  rw [e0] at hk
  exact ⟨SkO q2 st2 ++ (R ++ G), _, inferInstance, c7.re (by simp), fun w G6 cx => ⟨0, rfl, SkO q2 st2 ++ R, _, inferInstance, (cx.left).re (by simp), hk q2 (by rw [hq2]) hq' inferInstance⟩⟩
set_option maxHeartbeats 2000000 in
theorem Abort_use [Stable Φ] {b : Int} [hF : Has Φ (SkF q st)] (hq : SkQ q st) (hI : SkI st) {n : Nat} (hs : SkS st n) (hn : n ≤ 400000) (c : Ctx W w ((SkO q st ++ R) ++ G) Φ) {K : Int → List Own → PW → Prop}
    (hk : ∀ q' : KP, q'.sb = q.sb → SkQ q' (abortK st b).2 → Stable (fun M w => Φ M w ∧ SkF q' (abortK st b).2 M w) → K (abortK st b).1 (SkO q' (abortK st b).2 ++ R) (fun M w => Φ M w ∧ SkF q' (abortK st b).2 M w)) :
    Calls Tryz.prog F.sink_Sink_Abort #[snk q, .int .i64 b] w fun e w' => ∃ n, e = .returned (.int .i64 n) ∧ ∃ R' Φ', Stable Φ' ∧ Ctx W w' (R' ++ G) Φ' ∧ K n R' Φ' := by
  refine (Bsink_Sink_Abort_run q.sb 0 b (R := (SkO q st ++ R) ++ G) (J := fun v w' => ∃ n, v = .int .i64 n ∧ ∃ R' Φ', Stable Φ' ∧ Ctx W w' (R' ++ G) Φ' ∧ K n R' Φ') c ?_).mono fun e w' ⟨v, he, n, hv, rest⟩ => ⟨n, by rw [he, hv], rest⟩
  clear c
  have same : ∀ (m : Int), abortK st b = (m, st) → ∀ {w : World} {G2 : List Own}, Ctx W w ((SkO q st ++ (R ++ G)) ++ G2) Φ → ∃ n, Value.int .i64 m = .int .i64 n ∧ ∃ R' Φ', Stable Φ' ∧ Ctx W w (R' ++ G) Φ' ∧ K n R' Φ' := fun m h {w G2} cx => by
    have := hk q rfl
    rw [h] at this
    exact ⟨m, rfl, SkO q st ++ R, _, inferInstance, ((cx.left).re (by simp)).weak fun M w h => ⟨h, hF.go M w h⟩, this hq inferInstance⟩
  refine fun w G2 cx => ⟨st.kind, cx.get 0 rfl rfl, ?_⟩
  clear cx
  have e0 : abortK st b = if st.kind ≠ 0 then (7, st) else if hasK st b = true then (7, st) else if (decide (b < 1) || decide (b ≠ st.prep)) = true then (4, st) else (0, { st with prep := 0, aside := [] }) := rfl
  refine Br.intro (fun h => fun w G2 cx => same 7 (by rw [e0, if_pos (of_decide_eq_true h)]) (G2 := G2) (cx.re (by simp))) (fun h => fun w G2 cx => ?_)
  rw [if_neg (of_decide_eq_false h)] at e0
  refine (Has_q hq hI hs hn).toB (R := R ++ G) (cx.re (by simp)) ?_
  clear cx
  refine Br.intro (fun h => fun w G2 cx => same 7 (by rw [e0, if_pos h]) cx) (fun h => fun w G2 cx => ⟨st.prep, fun _ => sk_cell (R := R ++ G) (i := 4) cx rfl, ?_⟩)
  rw [if_neg (by rw [h]; simp)] at e0
  clear cx
  refine Br.intro (fun h => fun w G2 cx => same 4 (by rw [e0, if_pos h]) cx) (fun h => fun w G3 cx => ⟨sk_can (q := q) (st := st) (S := (R ++ G) ++ G3) (cx.re (by simp)) (by decide), fun w2 hw2 => ?_⟩)
  rw [if_neg (by rw [h]; simp)] at e0
  have c2 := sk_put (q := q) (st := st) (S := (R ++ G) ++ G3) (cx.re (by simp)) hw2
  refine ⟨.blk q.sb [.int .i64 st.kind, .slice q.kp st.key.length q.kc, .slice q.bp st.bats.length q.bc, .slice q.lp st.lines.length q.lc, .int .i64 0, .slice q.ap st.aside.length q.ac] 57 :: bufZ q.bp q.bc st.bats :: bufL q.lp st.lines.length q.lc q.cs :: (R ++ G), _, inferInstance, c2, fun w G4 cx => ⟨cx.can 0 rfl (by show 5 + 1 ≤ 6; decide), fun w3 hw3 => ?_⟩⟩
  have c4 := cx.put 0 hw3 rfl
  obtain ⟨q2, hq2⟩ : ∃ q2 : KP, q2 = ⟨q.sb, q.kp, q.kc, q.bp, q.bc, q.lp, q.lc, q.cs, none, 0⟩ := ⟨_, rfl⟩
  obtain ⟨st2, hst2⟩ : ∃ st2 : SkD, st2 = { st with prep := 0, aside := [] } := ⟨_, rfl⟩
  rw [← hst2] at e0
  have c7 : Ctx W w3 ((SkO q2 st2 ++ R) ++ (G ++ G4)) (fun M w => Φ M w ∧ SkF q2 st2 M w) := by
    rw [hq2, hst2]
    have c8 := c4.weak (Ψ := fun M w => Φ M w ∧ SkF ⟨q.sb, q.kp, q.kc, q.bp, q.bc, q.lp, q.lc, q.cs, none, 0⟩ { st with prep := 0, aside := [] } M w) fun M w h => ⟨h, (hF.go M w h).1, (hF.go M w h).2.1, fun i hi => absurd hi (by simp)⟩
    exact c8.re (by simp)
  have hq' : SkQ q2 st2 := skq_of (S := R ++ (G ++ G4)) (c7.re (by simp)) (by rw [hq2, hst2]; exact hq.kcap) (by rw [hq2, hst2]; exact ⟨Nat.le_refl _, Nat.zero_le _⟩)
  rw [e0] at hk
  exact ⟨SkO q2 st2 ++ (R ++ G), _, inferInstance, c7.re (by simp), fun w G6 cx => ⟨0, rfl, SkO q2 st2 ++ R, _, inferInstance, (cx.left).re (by simp), hk q2 (by rw [hq2]) hq' inferInstance⟩⟩
set_option maxHeartbeats 2000000 in
theorem Commit_use [Stable Φ] {b : Int} [hF : Has Φ (SkF q st)] (hq : SkQ q st) (hI : SkI st) {n : Nat} (hs : SkS st n) (hn : n ≤ 400000) (c : Ctx W w ((SkO q st ++ R) ++ G) Φ) {K : Int → List Own → PW → Prop}
    (hk : ∀ q' : KP, q'.sb = q.sb → SkQ q' (commK st b).2 → Stable (fun M w => Φ M w ∧ SkF q' (commK st b).2 M w) → K (commK st b).1 (SkO q' (commK st b).2 ++ R) (fun M w => Φ M w ∧ SkF q' (commK st b).2 M w)) :
    Calls Tryz.prog F.sink_Sink_Commit #[snk q, .int .i64 b] w fun e w' => ∃ n, e = .returned (.int .i64 n) ∧ ∃ R' Φ', Stable Φ' ∧ Ctx W w' (R' ++ G) Φ' ∧ K n R' Φ' := by
  have hal := hs.aside
  refine (Bsink_Sink_Commit_run q.sb 0 b (R := (SkO q st ++ R) ++ G) (J := fun v w' => ∃ n, v = .int .i64 n ∧ ∃ R' Φ', Stable Φ' ∧ Ctx W w' (R' ++ G) Φ' ∧ K n R' Φ') c ?_).mono fun e w' ⟨v, he, n, hv, rest⟩ => ⟨n, by rw [he, hv], rest⟩
  clear c
  have same : ∀ (m : Int), commK st b = (m, st) → ∀ {w : World} {G2 : List Own}, Ctx W w ((SkO q st ++ (R ++ G)) ++ G2) Φ → ∃ n, Value.int .i64 m = .int .i64 n ∧ ∃ R' Φ', Stable Φ' ∧ Ctx W w (R' ++ G) Φ' ∧ K n R' Φ' := fun m h {w G2} cx => by
    have := hk q rfl
    rw [h] at this
    exact ⟨m, rfl, SkO q st ++ R, _, inferInstance, ((cx.left).re (by simp)).weak fun M w h => ⟨h, hF.go M w h⟩, this hq inferInstance⟩
  refine fun w G2 cx => ⟨st.kind, cx.get 0 rfl rfl, ?_⟩
  clear cx
  have e0 : commK st b = if st.kind ≠ 0 then (7, st) else if hasK st b = true then (0, st) else if (decide (b < 1) || decide (b ≠ st.prep)) = true then (4, st) else (0, { takeK st b st.aside with prep := 0, aside := [] }) := rfl
  refine Br.intro (fun h => fun w G2 cx => same 7 (by rw [e0, if_pos (of_decide_eq_true h)]) (G2 := G2) (cx.re (by simp))) (fun h => fun w G2 cx => ?_)
  rw [if_neg (of_decide_eq_false h)] at e0
  refine (Has_q hq hI hs hn).toB (R := R ++ G) (cx.re (by simp)) ?_
  clear cx
  refine Br.intro (fun h => fun w G2 cx => same 0 (by rw [e0, if_pos h]) cx) (fun h => fun w G2 cx => ⟨st.prep, fun _ => sk_cell (R := R ++ G) (i := 4) cx rfl, ?_⟩)
  rw [if_neg (by rw [h]; simp)] at e0
  clear cx
  refine Br.intro (fun h => fun w G2 cx => same 4 (by rw [e0, if_pos h]) cx) (fun h => fun w G3 cx => ⟨_, _, _, sk_cell (R := R ++ G) (i := 5) cx rfl, fun w G3 cx => ?_⟩)
  rw [if_neg (by rw [h]; simp)] at e0
  have hasd : Has Φ (fun M w => Sl M w q.ap st.aside) := ⟨fun M w h => (hF.go M w h).2.2⟩
  refine take_use (R := R ++ G) (L := st.aside) (b := b) hq hs hn (by omega) cx fun q1 hsb hq1 st1 => ?_
  clear cx
  rw [← hsb]
  obtain ⟨s1, hs1⟩ : ∃ s1, takeK st b st.aside = s1 := ⟨_, rfl⟩
  rw [hs1] at hq1 st1 e0 ⊢
  refine fun w G3 cx => ⟨sk_can (q := q1) (st := s1) (S := (R ++ G) ++ G3) (cx.re (by simp)) (by decide), fun w2 hw2 => ?_⟩
  have c2 := sk_put (q := q1) (st := s1) (S := (R ++ G) ++ G3) (cx.re (by simp)) hw2
  refine ⟨.blk q1.sb [.int .i64 s1.kind, .slice q1.kp s1.key.length q1.kc, .slice q1.bp s1.bats.length q1.bc, .slice q1.lp s1.lines.length q1.lc, .int .i64 0, .slice q1.ap s1.aside.length q1.ac] 57 :: bufZ q1.bp q1.bc s1.bats :: bufL q1.lp s1.lines.length q1.lc q1.cs :: (R ++ G), _, st1, c2, fun w G4 cx => ⟨cx.can 0 rfl (by show 5 + 1 ≤ 6; decide), fun w3 hw3 => ?_⟩⟩
  have c4 := cx.put 0 hw3 rfl
  obtain ⟨q2, hq2⟩ : ∃ q2 : KP, q2 = ⟨q1.sb, q1.kp, q1.kc, q1.bp, q1.bc, q1.lp, q1.lc, q1.cs, none, 0⟩ := ⟨_, rfl⟩
  obtain ⟨st2, hst2⟩ : ∃ st2 : SkD, st2 = { s1 with prep := 0, aside := [] } := ⟨_, rfl⟩
  rw [← hst2] at e0
  have c7 : Ctx W w3 ((SkO q2 st2 ++ R) ++ (G ++ G4)) (fun M w => Φ M w ∧ SkF q2 st2 M w) := by
    rw [hq2, hst2]
    have c8 := c4.weak (Ψ := fun M w => Φ M w ∧ SkF ⟨q1.sb, q1.kp, q1.kc, q1.bp, q1.bc, q1.lp, q1.lc, q1.cs, none, 0⟩ { s1 with prep := 0, aside := [] } M w) fun M w h => ⟨h.1, h.2.1, h.2.2.1, fun i hi => absurd hi (by simp)⟩
    exact c8.re (by simp)
  have hq' : SkQ q2 st2 := skq_of (S := R ++ (G ++ G4)) (c7.re (by simp)) (by rw [hq2, hst2]; exact hq1.kcap) (by rw [hq2, hst2]; exact ⟨Nat.le_refl _, Nat.zero_le _⟩)
  rw [e0] at hk
  exact ⟨SkO q2 st2 ++ (R ++ G), _, inferInstance, c7.re (by simp), fun w G6 cx => ⟨0, rfl, SkO q2 st2 ++ R, _, inferInstance, (cx.left).re (by simp), hk q2 (by rw [hq2]; exact hsb) hq' inferInstance⟩⟩
set_option maxHeartbeats 2000000 in
theorem Deliver_use [Stable Φ] {b : Int} [hF : Has Φ (SkF q st)] [hL : Has Φ (fun M w => Sl M w p L)] (hq : SkQ q st) (hI : SkI st) {n : Nat} (hs : SkS st n) (hn : n ≤ 400000) (hlen : L.length ≤ 400000) (c : Ctx W w ((SkO q st ++ R) ++ G) Φ) {K : Int → List Own → PW → Prop}
    (hk : ∀ q' : KP, q'.sb = q.sb → SkQ q' (delivK st b L).2 → Stable (fun M w => Φ M w ∧ SkF q' (delivK st b L).2 M w) → K (delivK st b L).1 (SkO q' (delivK st b L).2 ++ R) (fun M w => Φ M w ∧ SkF q' (delivK st b L).2 M w)) :
    Calls Tryz.prog F.sink_Sink_Deliver #[snk q, .int .i64 b, .slice p L.length cap] w fun e w' => ∃ n, e = .returned (.int .i64 n) ∧ ∃ R' Φ', Stable Φ' ∧ Ctx W w' (R' ++ G) Φ' ∧ K n R' Φ' := by
  refine (Bsink_Sink_Deliver_run q.sb 0 b p L.length cap (R := (SkO q st ++ R) ++ G) (J := fun v w' => ∃ n, v = .int .i64 n ∧ ∃ R' Φ', Stable Φ' ∧ Ctx W w' (R' ++ G) Φ' ∧ K n R' Φ') c ?_).mono fun e w' ⟨v, he, n, hv, rest⟩ => ⟨n, by rw [he, hv], rest⟩
  clear c
  have same : ∀ (m : Int), delivK st b L = (m, st) → ∀ {w : World} {G2 : List Own}, Ctx W w ((SkO q st ++ (R ++ G)) ++ G2) Φ → ∃ n, Value.int .i64 m = .int .i64 n ∧ ∃ R' Φ', Stable Φ' ∧ Ctx W w (R' ++ G) Φ' ∧ K n R' Φ' := fun m h {w G2} cx => by
    have := hk q rfl
    rw [h] at this
    exact ⟨m, rfl, SkO q st ++ R, _, inferInstance, ((cx.left).re (by simp)).weak fun M w h => ⟨h, hF.go M w h⟩, this hq inferInstance⟩
  refine fun w G2 cx => ⟨st.kind, cx.get 0 rfl rfl, ?_⟩
  clear cx
  have e0 : delivK st b L = if st.kind = 0 then (7, st) else if hasK st b = true then (0, st) else if lookK st b L ≠ 0 then (lookK st b L, st) else (0, takeK st b L) := rfl
  refine Br.intro (fun h => fun w G2 cx => same 7 (by rw [e0, if_pos (of_decide_eq_true h)]) (G2 := G2) (cx.re (by simp))) (fun h => fun w G2 cx => ?_)
  rw [if_neg (of_decide_eq_false h)] at e0
  refine (Has_q hq hI hs hn).toB (R := R ++ G) (cx.re (by simp)) ?_
  clear cx
  refine Br.intro (fun h => fun w G2 cx => same 0 (by rw [e0, if_pos h]) cx) (fun h => fun w G2 cx => ?_)
  rw [if_neg (by rw [h]; simp)] at e0
  refine (Look_to hq hs hn hlen).toI (R := R ++ G) cx ?_
  clear cx
  refine Br.intro (fun h => fun w G2 cx => same _ (by rw [e0, if_pos (of_decide_eq_true h)]) cx) (fun h => fun w G2 cx => ?_)
  rw [if_neg (of_decide_eq_false h)] at e0
  obtain ⟨_, _, g3, _⟩ := look_ok (of_decide_eq_false h)
  refine (CloneK_sl (l := L) (by omega) fun x hx => by have := right_len (bad_right (g3 x hx)).2.2.1; omega).to cx fun p1 c1 f1 f2 st1 => ?_
  clear cx
  have hF2 : Has (fun M w => Φ M w ∧ Sl M w p1 L) (SkF q st) := ⟨fun M w h => hF.go M w h.1⟩
  refine fun w G3 cx => take_use (Φ := fun M w => Φ M w ∧ Sl M w p1 L) (R := R ++ G) (L := L) (b := b) hq hs hn hlen cx fun q1 hsb hq1 st2 => ?_
  rw [e0] at hk
  exact fun w G6 cx => ⟨0, rfl, SkO q1 (takeK st b L) ++ R, _, inferInstance, ((cx.left).re (by simp)).weak fun M w h => ⟨h.1.1, h.2⟩, hk q1 hsb hq1 inferInstance⟩
end
end Go.Proofs.YtemhapmbcbbljaaGreatDoor
end

section
namespace Go.Proofs.YtemhapmbcbbljaaGreatDoor
open Go.Vc
structure OpD where
  op : Int
  batch : Int
  l : List LineD
instance : Gv OpD := Gv.via (β := Int × Int × List LineD) (fun x => (x.op, x.batch, x.l)) (fun y => ⟨y.1, y.2.1, y.2.2⟩) (fun _ => rfl)
abbrev OpD.cells (x : OpD) (p : Option Addr) (c : Nat) : List Value := [.int .i64 x.op, .int .i64 x.batch, .slice p x.l.length c]
theorem op_cells {M : List Nat} {w : World} {cs : List Value} {x : OpD} (h : Gv.rep M w cs x) : ∃ p c, cs = x.cells p c ∧ x.l.length ≤ c ∧ c ≤ maxLen ∧ I64 x.op ∧ I64 x.batch ∧ Sl M w p x.l := by
  obtain ⟨_, _, rfl, ⟨rfl, h1⟩, _, _, rfl, ⟨rfl, h2⟩, ⟨p, c, rfl, g1, g2, g3⟩⟩ := h
  exact ⟨p, c, rfl, g1, g2, h1, h2, g3⟩
theorem pin_op {M : List Nat} {w : World} {b o : Nat} {cs : List (List Value)} {l : List OpD} (h : Pin b o cs l M w) {j : Nat} (hj : j < l.length) : ∃ p c, cs.getD j [] = l[j].cells p c ∧ l[j].l.length ≤ c ∧ c ≤ maxLen ∧ I64 l[j].op ∧ I64 l[j].batch := by
  obtain ⟨_, h1, h2⟩ := h j hj
  obtain ⟨p, c, e, g1, g2, g3, g4, _⟩ := op_cells h2
  exact ⟨p, c, e, g1, g2, g3, g4⟩
theorem pino_sl {M : List Nat} {w : World} {b o : Nat} {cs : List (List Value)} {l : List OpD} (h : Pin b o cs l M w) {j : Nat} (hj : j < l.length) {p : Option Addr} {c : Nat} (e : cs.getD j [] = l[j].cells p c) : Sl M w p l[j].l := by
  have := (h j hj).2.2
  rw [e] at this
  obtain ⟨p', c', e', _, _, _, _, h1⟩ := op_cells this
  simp only [OpD.cells, List.cons.injEq, Value.slice.injEq] at e'
  rw [e'.2.2.1.1]
  exact h1
theorem pino_rowAt {M : List Nat} {w : World} {b o : Nat} {cs : List (List Value)} {l : List OpD} (h : Pin b o cs l M w) {j : Nat} (hj : j < l.length) {p : Option Addr} {c : Nat} (e : cs.getD j [] = l[j].cells p c) : RowAt w b (o + j * 3) (l[j].cells p c) := by
  have := (h j hj).2.1
  rw [e] at this
  exact this
def fewV (r : List ValD) : Bool := decide ((r.length : Int) ≤ 12) && r.all fun v => decide ((v.text.size : Int) ≤ 210)
def fewR (L : List LineD) (n : Int) : Bool := decide ((L.length : Int) ≤ n) && L.all fun x => fewV x.row
def fewO (l : List OpD) (n : Int) : Bool := decide ((l.length : Int) ≤ n) && l.all fun x => fewR x.l 8
theorem fewR_len {L : List LineD} {n : Int} (h : fewR L n = true) : (L.length : Int) ≤ n := of_decide_eq_true (Bool.and_eq_true_iff.1 h).1
section
variable {Φ : PW} {W w : World} {R S G : List Own} {p r : Option Addr} {cap cap2 : Nat}
set_option maxHeartbeats 1000000 in
theorem Few43_src [Stable Φ] {L : List LineD} {cs : List Value} {n : Int} (src : Src [] Φ p L cs) (hc : Rows7 cs L) (hlen : L.length ≤ maxLen) : GivesIn Φ Tryz.prog F.errataref43_Few #[.slice p L.length cap, .int .i64 n] (.bool (fewR L n)) := by
  refine gives_in (Berrataref43_Few_run p L.length cap n) fun W R => ?_
  unfold maxLen at hlen
  refine exI_mk (fun n1 R' Φ' k => ∃ i : Nat, n1 = i ∧ i ≤ L.length ∧ R' = R ∧ Φ' = Φ ∧ k = L.length - i ∧ (L.all fun x => fewV x.row) = (L.drop i).all fun x => fewV x.row) ⟨⟨R, Φ, _, inferInstance, fun w F c => c, 0, rfl, Nat.zero_le _, rfl, rfl, rfl, rfl⟩, ?_⟩
  rintro n1 R1 Φ1 k _ ⟨i, rfl, hi, rfl, rfl, rfl, hs⟩
  refine fun w G cx => Br.intro (fun hlt => ?_) (fun hge => fun w G cx => ⟨?_, cx.left⟩)
  · have hlt2 := Bool.and_eq_true_iff.1 hlt
    have hlt : i < L.length := by have := of_decide_eq_true hlt2.1; omega
    clear cx
    obtain ⟨b, o, hp⟩ := src.ptr (by omega)
    obtain ⟨r, rc, he, h1, h2, h3⟩ := hc i hlt
    unfold maxLen at h2
    have hh : Has Φ1 (fun M w => Sl M w r L[i].row) := ⟨fun M w h => src_sl src hlt he h⟩
    rw [List.drop_eq_getElem_cons hlt, List.all_cons] at hs
    have bad : fewV L[i].row = false → fewR L n = false := fun h => by unfold fewR; rw [hs, h, Bool.false_and, Bool.and_false]
    have hrow : ∀ {w : World} {G : List Own}, Ctx W w (R1 ++ G) Φ1 → w.cell? ⟨b, o + ((i : Nat) : Int).toNat * 7 + 3, none⟩ = some (.slice r L[i].row.length rc) := fun {w G} cx => by
      rw [Int.toNat_natCast]
      exact src_at (S := []) src hp cx he 3 (by show 3 < 7; decide)
    refine ⟨by omega, ptrK_intro b o hp fun w G cx => ⟨r, L[i].row.length, rc, hrow cx, Br.intro (fun h => fun w G cx => ⟨?_, cx.left⟩) (fun h12 => ?_)⟩⟩
    · rw [bad (by unfold fewV; rw [decide_eq_false (by have := of_decide_eq_true h; omega), Bool.false_and])]
    clear cx
    have h12 := of_decide_eq_false h12
    refine exI_mk (fun n2 R' Φ' k => ∃ j : Nat, n2 = j ∧ j ≤ L[i].row.length ∧ R' = R1 ∧ Φ' = Φ1 ∧ k = L[i].row.length - j ∧ (L[i].row.all fun v => decide ((v.text.size : Int) ≤ 210)) = (L[i].row.drop j).all fun v => decide ((v.text.size : Int) ≤ 210)) ⟨⟨R1, Φ1, _, inferInstance, fun w F c => c, 0, rfl, Nat.zero_le _, rfl, rfl, rfl, rfl⟩, ?_⟩
    rintro n2 R2 Φ2 k2 _ ⟨j, rfl, hj, rfl, rfl, rfl, hs2⟩
    refine ⟨by omega, ptrK_intro b o hp fun w G cx => ⟨r, L[i].row.length, rc, hrow cx, ?_⟩⟩
    have hth := (hh.go _ _ cx.phi).there
    clear cx
    refine Br.intro (fun hlt3 => ?_) (fun hge3 => ?_)
    · have hlt3 : j < L[i].row.length := by have := of_decide_eq_true hlt3; omega
      obtain ⟨g1, o1, hr⟩ := hth (by omega)
      rw [List.drop_eq_getElem_cons hlt3, List.all_cons] at hs2
      refine ⟨by omega, ptrK_intro b o hp fun w G cx => ⟨r, L[i].row.length, rc, hrow cx, by omega, ptrK_intro g1 o1 hr fun w G cx => ⟨L[i].row[j].text, ?_, Br.intro (fun h => fun w G cx => ⟨?_, cx.left⟩) (fun h => ⟨by unfold I64; omega, R2, Φ2, L[i].row.length - (j + 1), inferInstance, fun w G cx => cx, ⟨j + 1, rfl, hlt3, rfl, rfl, rfl, ?_⟩, by omega⟩)⟩⟩⟩
      · rw [Int.toNat_natCast]
        have := hh.go _ _ cx.phi
        rw [hr] at this
        exact sl_val this hlt3 2 (by simp)
      · rw [bad (by unfold fewV; rw [hs2, decide_eq_false (p := (L[i].row[j].text.size : Int) ≤ 210) (by have := of_decide_eq_true h; omega), Bool.false_and, Bool.and_false])]
      · rw [hs2, decide_eq_true (p := (L[i].row[j].text.size : Int) ≤ 210) (by have := of_decide_eq_false h; omega), Bool.true_and]
    · have hge3 : j = L[i].row.length := by have := of_decide_eq_false hge3; omega
      rw [hge3, List.drop_length] at hs2
      have hok : fewV L[i].row = true := by unfold fewV; rw [hs2, decide_eq_true (by omega)]; rfl
      exact ⟨by unfold I64; omega, R2, Φ2, L.length - (i + 1), inferInstance, fun w G cx => cx, ⟨i + 1, rfl, hlt, rfl, rfl, rfl, by rw [hs, hok, Bool.true_and]⟩, by omega⟩
  · unfold fewR
    rcases Bool.and_eq_false_iff.1 hge with h | h
    · have hge : i = L.length := by have := of_decide_eq_false h; omega
      rw [hge, List.drop_length] at hs
      rw [hs]
      show _ = Value.bool (_ && true)
      rw [Bool.and_true]
    · have : ¬ ((L.length : Int) ≤ n) := by have := of_decide_eq_false h; omega
      rw [decide_eq_false this, Bool.false_and]
theorem Few43_in [Stable Φ] {L : List LineD} {n : Int} [hΦ : Has Φ (fun M w => Sl M w p L)] (hlen : L.length ≤ maxLen) : GivesIn Φ Tryz.prog F.errataref43_Few #[.slice p L.length cap, .int .i64 n] (.bool (fewR L n)) :=
  ⟨fun W w S c => by
    have hth := (hΦ.go _ _ c.phi).there
    obtain ⟨cs, c1⟩ := srcOf c (hΦ.go _ _ c.phi)
    exact (Few43_src (Φ := fun M w => Φ M w ∧ SrcF p L cs M w) (src_fact (Φ := fun M w => Φ M w ∧ SrcF p L cs M w) hth (fun M w h => h.2)) (rows7 c1.phi.2.2) hlen).use c1 fun w' c => ⟨rfl, c.fst⟩⟩
theorem few43_in [Stable Φ] {l : List OpD} {n : Int} {g o : Nat} {cs : List (List Value)} (hp : 0 < l.length → p = some ⟨g, o, none⟩) (hP : ∀ M w, Φ M w → Pin g o cs l M w) (hlen : l.length ≤ maxLen) : GivesIn Φ Tryz.prog F.erratalaw43_few #[.slice p l.length cap, .int .i64 n] (.bool (fewO l n)) := by
  refine ⟨fun W0 w0 S0 c0 => GivesIn.go (gives_in (Berratalaw43_few_run p l.length cap n) fun W R => ?_) W0 w0 S0 c0⟩
  have hc : ∀ j (hj : j < l.length), ∃ p c, cs.getD j [] = l[j].cells p c ∧ l[j].l.length ≤ c ∧ c ≤ maxLen ∧ I64 l[j].op ∧ I64 l[j].batch := fun j hj => pin_op (hP _ _ c0.phi) hj
  clear c0
  refine exI_mk (fun n R' Φ' k => ∃ i : Nat, n = i ∧ i ≤ l.length ∧ R' = R ∧ Φ' = Φ ∧ k = l.length - i ∧ (l.take i).all (fun x => fewR x.l 8) = true) ⟨⟨R, Φ, _, inferInstance, fun w F c => c, 0, rfl, Nat.zero_le _, rfl, rfl, rfl, rfl⟩, ?_⟩
  rintro n1 R1 Φ1 k _ ⟨i, rfl, hi, rfl, rfl, rfl, hs⟩
  refine Br.intro (fun hlt => ?_) (fun hge => fun w G cx => ⟨?_, cx.left⟩)
  · have hlt : i < l.length := by have := of_decide_eq_true hlt; omega
    obtain ⟨r, rc, he, h1, h2, _⟩ := hc i hlt
    have hh : Has Φ1 (fun M w => Sl M w r l[i].l) := ⟨fun M w h => pino_sl (hP M w h) hlt he⟩
    refine ⟨by omega, ptrK_intro g o (hp (by omega)) fun w G cx => ⟨r, l[i].l.length, rc, ?_, fun w G cx => (Few43_in (L := l[i].l) (n := 8) (by omega)).toB cx ?_⟩⟩
    · have := pino_rowAt (hP _ _ cx.phi) hlt he 2 (by simp)
      rw [Int.toNat_natCast]
      exact this
    clear cx
    refine Br.intro (fun h => fun w G cx => ⟨?_, cx.left⟩) (fun h => ⟨by unfold I64; unfold maxLen at hlen; omega, R1, Φ1, l.length - (i + 1), inferInstance, fun w G cx => cx, ⟨i + 1, rfl, hlt, rfl, rfl, rfl, ?_⟩, by omega⟩)
    · have h : fewR l[i].l 8 = false := by simpa using h
      unfold fewO
      rw [List.all_eq_false.2 ⟨l[i], List.getElem_mem _, by rw [h]; simp⟩, Bool.and_false]
    · have h : fewR l[i].l 8 = true := by simpa using h
      rw [List.take_succ_eq_append_getElem hlt, List.all_append, hs]
      simp [h]
  · have hge : i = l.length := by have := of_decide_eq_false hge; omega
    subst hge
    rw [List.take_length] at hs
    unfold fewO
    rw [hs, Bool.and_true]
end
def sameL (x y : LineD) : Bool := decide (x.no = y.no) && decide (x.batch = y.batch) && decide (x.time = y.time) && decide (x.n = y.n) && decide (x.cause = y.cause) && decide (x.why = y.why) && decide (cmpR x.row y.row = 0)
theorem sameL_refl (x : LineD) : sameL x x = true := by unfold sameL; simp [cmpR_cmp.refl]
theorem sameL_eq {x y : LineD} (h : sameL x y = true) : x = y := by
  unfold sameL at h
  simp only [Bool.and_eq_true, decide_eq_true_eq] at h
  obtain ⟨⟨⟨⟨⟨⟨h1, h2⟩, h3⟩, h4⟩, h5⟩, h6⟩, h7⟩ := h
  have h7 := (cmpR_cmp.eq _ _).1 h7
  cases x; cases y
  simp_all
instance : DecidableEq LineD := fun x y => decidable_of_iff (sameL x y = true) ⟨sameL_eq, fun h => h ▸ sameL_refl x⟩
theorem sameL_dec (x y : LineD) : sameL x y = decide (x = y) := by
  cases h : sameL x y with
  | true => exact (decide_eq_true (sameL_eq h)).symm
  | false => exact (decide_eq_false fun e => by rw [e, sameL_refl] at h; cases h).symm
theorem eq_drop {a b : List LineD} {i : Nat} (ha : i < a.length) (hb : i < b.length) : decide (a.drop i = b.drop i) = (sameL a[i] b[i] && decide (a.drop (i + 1) = b.drop (i + 1))) := by
  rw [List.drop_eq_getElem_cons ha, List.drop_eq_getElem_cons hb, sameL_dec, ← Bool.decide_and]
  exact decide_eq_decide.2 (by rw [List.cons.injEq])
section
variable {Φ : PW} {W w : World} {R S G : List Own} {p r : Option Addr} {cap cap2 : Nat}
theorem rSame03_in [Stable Φ] {a b : List ValD} [hA : Has Φ (fun M w => Sl M w p a)] [hB : Has Φ (fun M w => Sl M w r b)] (hlen : a.length ≤ 1000000) : GivesIn Φ Tryz.prog F.errataref03_Same #[.slice p a.length cap, .slice r b.length cap2] (.bool (decide (cmpR a b = 0))) :=
  gives_in (Berrataref03_Same_run p a.length cap r b.length cap2) fun W R => fun w G cx => (rCompareRows_in p r cap cap2 a b hA.go hB.go (by omega)).toI cx fun w G cx => ⟨rfl, cx.left⟩
set_option maxHeartbeats 1000000 in
theorem SameLines_src [Stable Φ] {a b : List LineD} {cs ds : List Value} (srcA : Src [] Φ p a cs) (srcB : Src [] Φ r b ds) (hca : Rows7 cs a) (hcb : Rows7 ds b) (hlen : a.length ≤ 1000000) (hrow : ∀ x ∈ a, x.row.length ≤ 1000000) :
    GivesIn Φ Tryz.prog F.errataref43_SameLines #[.slice p a.length cap, .slice r b.length cap2] (.bool (decide (a = b))) := by
  refine gives_in (Berrataref43_SameLines_run p a.length cap r b.length cap2) fun W R => Br.intro (fun h => fun w G cx => ⟨?_, cx.left⟩) (fun h => ?_)
  · rw [decide_eq_false fun e => of_decide_eq_true h (by rw [e])]
  have hab : a.length = b.length := by have := Decidable.not_not.1 (of_decide_eq_false h); omega
  refine exI_mk (fun n1 R' Φ' k => ∃ i : Nat, n1 = i ∧ i ≤ a.length ∧ R' = R ∧ Φ' = Φ ∧ k = a.length - i ∧ decide (a = b) = decide (a.drop i = b.drop i)) ⟨⟨R, Φ, _, inferInstance, fun w F c => c, 0, rfl, Nat.zero_le _, rfl, rfl, rfl, rfl⟩, ?_⟩
  rintro n1 R1 Φ1 k _ ⟨i, rfl, hi, rfl, rfl, rfl, hs⟩
  refine Br.intro (fun hlt => ?_) (fun hge => fun w G cx => ⟨?_, cx.left⟩)
  · have hlt : i < a.length := by have := of_decide_eq_true hlt; omega
    have hlb : i < b.length := by omega
    obtain ⟨b1, o1, hp⟩ := srcA.ptr (by omega)
    obtain ⟨b2, o2, hr⟩ := srcB.ptr (by omega)
    obtain ⟨ra, rca, hea, _, _, _⟩ := hca i hlt
    obtain ⟨rb, rcb, heb, _, _, _⟩ := hcb i hlb
    have hA : Has Φ1 (fun M w => Sl M w ra a[i].row) := ⟨fun M w h => src_sl srcA hlt hea h⟩
    have hB : Has Φ1 (fun M w => Sl M w rb b[i].row) := ⟨fun M w h => src_sl srcB hlb heb h⟩
    rw [eq_drop hlt hlb] at hs
    have stop : sameL a[i] b[i] = false → ∀ {w : World} {G : List Own}, Ctx W w (R1 ++ G) Φ1 → Value.bool false = .bool (decide (a = b)) ∧ Ctx W w R1 Φ1 := fun h {w G} cx => ⟨by rw [hs, h, Bool.false_and], cx.left⟩
    refine ⟨by omega, ptrK_intro b1 o1 hp fun w G cx => ⟨a[i].no, a[i].batch, a[i].time, ra, a[i].row.length, rca, a[i].n, a[i].cause, a[i].why, by rw [Int.toNat_natCast]; exact src_at (S := []) srcA hp cx hea, fun _ => ⟨by omega, ptrK_intro b2 o2 hr fun w G cx => ⟨b[i].no, b[i].batch, b[i].time, rb, b[i].row.length, rcb, b[i].n, b[i].cause, b[i].why, by rw [Int.toNat_natCast]; exact src_at (S := []) srcB hr cx heb, fun _ => ?_⟩⟩⟩⟩
    clear cx
    refine Br.intro (fun h => fun w G cx => stop (by unfold sameL; rw [decide_eq_false (of_decide_eq_true h)]; rfl) cx) (fun g1 => ?_)
    refine Br.intro (fun h => fun w G cx => stop (by unfold sameL; rw [decide_eq_false (p := a[i].batch = b[i].batch) (of_decide_eq_true h)]; simp) cx) (fun g2 => ?_)
    refine Br.intro (fun h => fun w G cx => stop (by unfold sameL; rw [decide_eq_false (p := a[i].time = b[i].time) (of_decide_eq_true h)]; simp) cx) (fun g3 => ?_)
    refine Br.intro (fun h => fun w G cx => stop (by unfold sameL; rw [decide_eq_false (p := a[i].n = b[i].n) (of_decide_eq_true h)]; simp) cx) (fun g4 => ?_)
    refine Br.intro (fun h => fun w G cx => stop (by unfold sameL; rw [decide_eq_false (p := a[i].cause = b[i].cause) (of_decide_eq_true h)]; simp) cx) (fun g5 => ?_)
    refine Br.intro (fun h => fun w G cx => stop (by unfold sameL; rw [decide_eq_false (p := a[i].why = b[i].why) (of_decide_eq_true h)]; simp) cx) (fun g6 => fun w G cx => (rSame03_in (a := a[i].row) (b := b[i].row) (hrow _ (List.getElem_mem _))).toB cx ?_)
    clear cx
    have hse : sameL a[i] b[i] = decide (cmpR a[i].row b[i].row = 0) := by
      unfold sameL
      rw [decide_eq_true (Decidable.not_not.1 (of_decide_eq_false g1)), decide_eq_true (Decidable.not_not.1 (of_decide_eq_false g2)), decide_eq_true (Decidable.not_not.1 (of_decide_eq_false g3)), decide_eq_true (Decidable.not_not.1 (of_decide_eq_false g4)), decide_eq_true (Decidable.not_not.1 (of_decide_eq_false g5)), decide_eq_true (Decidable.not_not.1 (of_decide_eq_false g6))]
      rfl
    rw [← hse]
    refine Br.intro (fun h => fun w G cx => stop (by simpa using h) cx) (fun h => ⟨by unfold I64; omega, R1, Φ1, a.length - (i + 1), inferInstance, fun w G cx => cx, ⟨i + 1, rfl, hlt, rfl, rfl, rfl, ?_⟩, by omega⟩)
    have h : sameL a[i] b[i] = true := by simpa using h
    rw [hs, h, Bool.true_and]
  · have hge : i = a.length := by have := of_decide_eq_false hge; omega
    rw [hs, hge, List.drop_length, hab, List.drop_length]
    rfl
theorem SameLines_in [Stable Φ] {a b : List LineD} [hA : Has Φ (fun M w => Sl M w p a)] [hB : Has Φ (fun M w => Sl M w r b)] (hlen : a.length ≤ 1000000) (hrow : ∀ x ∈ a, x.row.length ≤ 1000000) :
    GivesIn Φ Tryz.prog F.errataref43_SameLines #[.slice p a.length cap, .slice r b.length cap2] (.bool (decide (a = b))) :=
  ⟨fun W w S c => by
    have hth := (hA.go _ _ c.phi).there
    have hth2 := (hB.go _ _ c.phi).there
    obtain ⟨cs, c1⟩ := srcOf c (hA.go _ _ c.phi)
    obtain ⟨ds, c2⟩ := srcOf c1 (hB.go _ _ c.phi)
    exact (SameLines_src (Φ := fun M w => (Φ M w ∧ SrcF p a cs M w) ∧ SrcF r b ds M w) (src_fact (Φ := fun M w => (Φ M w ∧ SrcF p a cs M w) ∧ SrcF r b ds M w) hth (fun M w h => h.1.2)) (src_fact (Φ := fun M w => (Φ M w ∧ SrcF p a cs M w) ∧ SrcF r b ds M w) hth2 (fun M w h => h.2)) (rows7 c2.phi.1.2.2) (rows7 c2.phi.2.2) hlen hrow).use c2 fun w' c => ⟨rfl, c.fst.fst⟩⟩
end
end Go.Proofs.YtemhapmbcbbljaaGreatDoor
end

section
namespace Go.Proofs.YtemhapmbcbbljaaGreatDoor
open Go.Vc
def PrepI (s : SkD) : Prop := s.prep ≠ 0 → s.kind = 0 ∧ lastK s < s.prep
theorem PrepI.ok {s : SkD} (h : PrepI s) : PrepOk s := fun h0 => (h h0).2
theorem prep_cases (s : SkD) (b : Int) (L : List LineD) : (prepK s b L).2 = s ∧ ((prepK s b L).1 = 0 → hasK s b = true) ∨ s.kind = 0 ∧ hasK s b = false ∧ ¬ lookK s b L ≠ 0 ∧ prepK s b L = (0, { s with prep := b, aside := L }) := by
  unfold prepK
  split
  · exact .inl ⟨rfl, fun h => by simp at h⟩
  split
  · rename_i h; exact .inl ⟨rfl, fun _ => h⟩
  split
  · rename_i h; exact .inl ⟨rfl, fun h2 => absurd h2 h⟩
  rename_i h1 h2 h3
  exact .inr ⟨Decidable.not_not.1 h1, by simpa using h2, h3, rfl⟩
theorem comm_cases (s : SkD) (b : Int) : (commK s b).2 = s ∧ ((commK s b).1 = 0 → hasK s b = true) ∨ s.kind = 0 ∧ hasK s b = false ∧ 1 ≤ b ∧ b = s.prep ∧ commK s b = (0, { takeK s b s.aside with prep := 0, aside := [] }) := by
  unfold commK
  split
  · exact .inl ⟨rfl, fun h => by simp at h⟩
  split
  · rename_i h; exact .inl ⟨rfl, fun _ => h⟩
  split
  · rename_i h; exact .inl ⟨rfl, fun h2 => by simp at h2⟩
  rename_i h1 h2 h3
  simp only [Bool.or_eq_true, decide_eq_true_eq, not_or, Int.not_lt, ne_eq, Decidable.not_not] at h3
  exact .inr ⟨Decidable.not_not.1 h1, by simpa using h2, h3.1, h3.2, rfl⟩
theorem abort_cases (s : SkD) (b : Int) : (abortK s b).2 = s ∧ (abortK s b).1 ≠ 0 ∨ s.kind = 0 ∧ 1 ≤ b ∧ b = s.prep ∧ abortK s b = (0, { s with prep := 0, aside := [] }) := by
  unfold abortK
  split
  · exact .inl ⟨rfl, by simp⟩
  split
  · exact .inl ⟨rfl, by simp⟩
  split
  · exact .inl ⟨rfl, by simp⟩
  rename_i h1 h2 h3
  simp only [Bool.or_eq_true, decide_eq_true_eq, not_or, Int.not_lt, ne_eq, Decidable.not_not] at h3
  exact .inr ⟨Decidable.not_not.1 h1, h3.1, h3.2, rfl⟩
theorem deliv_cases (s : SkD) (b : Int) (L : List LineD) : (delivK s b L).2 = s ∧ ((delivK s b L).1 = 0 → s.kind ≠ 0 ∧ hasK s b = true) ∨ s.kind ≠ 0 ∧ hasK s b = false ∧ ¬ lookK s b L ≠ 0 ∧ delivK s b L = (0, takeK s b L) := by
  unfold delivK
  split
  · exact .inl ⟨rfl, fun h => by simp at h⟩
  rename_i h0
  split
  · rename_i h; exact .inl ⟨rfl, fun _ => ⟨h0, h⟩⟩
  split
  · rename_i h; exact .inl ⟨rfl, fun h2 => absurd h2 h⟩
  rename_i h2 h3
  exact .inr ⟨h0, by simpa using h2, h3, rfl⟩
theorem last_take (s : SkD) (b : Int) (L : List LineD) : lastK (takeK s b L) = b := by
  unfold lastK takeK
  simp
theorem prep_p {s : SkD} (hp : PrepI s) (b : Int) (L : List LineD) : PrepI (prepK s b L).2 := by
  rcases prep_cases s b L with ⟨h, _⟩ | ⟨h0, _, h2, h⟩
  · rw [h]; exact hp
  · rw [h]; exact fun _ => ⟨h0, (look_ok h2).2.1⟩
theorem comm_p {s : SkD} (hp : PrepI s) (b : Int) : PrepI (commK s b).2 := by
  rcases comm_cases s b with ⟨h, _⟩ | ⟨_, _, _, _, h⟩
  · rw [h]; exact hp
  · rw [h]; exact fun h => absurd rfl h
theorem abort_p {s : SkD} (hp : PrepI s) (b : Int) : PrepI (abortK s b).2 := by
  rcases abort_cases s b with ⟨h, _⟩ | ⟨_, _, _, h⟩
  · rw [h]; exact hp
  · rw [h]; exact fun h => absurd rfl h
theorem deliv_p {s : SkD} (hp : PrepI s) (b : Int) (L : List LineD) : PrepI (delivK s b L).2 := by
  rcases deliv_cases s b L with ⟨h, _⟩ | ⟨h0, _, _, h⟩
  · rw [h]; exact hp
  · rw [h]; exact fun h2 => absurd (hp h2).1 h0
theorem op_i {s : SkD} (hI : SkI s) (hp : PrepI s) {b : Int} (h : I64 b) (k : Int) (L : List LineD) : SkI (opK k s b L).2 ∧ PrepI (opK k s b L).2 := by
  unfold opK
  split
  · exact ⟨prep_i hI, prep_p hp b L⟩
  split
  · exact ⟨prep_i hI, prep_p hp b L⟩
  split
  · exact ⟨comm_i hI hp.ok h, comm_p hp b⟩
  split
  · exact ⟨abort_i hI, abort_p hp b⟩
  split
  · exact ⟨hI, hp⟩
  split
  · exact ⟨hI, hp⟩
  · exact ⟨deliv_i hI h, deliv_p hp b L⟩
theorem SkS.up {s : SkD} {n m : Nat} (h : SkS s n) (hm : n ≤ m) : SkS s m := ⟨by have := h.bats; omega, by have := h.lines; omega, by have := h.aside; omega, by have := h.key; omega⟩
theorem take_s {s : SkD} {n m : Nat} (h : SkS s n) (b : Int) {L : List LineD} (hL : L.length ≤ m) (hm : 1 ≤ m) : SkS (takeK s b L) (n + m) :=
  ⟨by show (s.bats ++ [b]).length ≤ _; rw [List.length_append, List.length_singleton]; have := h.bats; omega, by show (s.lines ++ L).length ≤ _; rw [List.length_append]; have := h.lines; omega, by show s.aside.length ≤ _; have := h.aside; omega, by show s.key.length ≤ _; have := h.key; omega⟩
theorem op_s {s : SkD} {n : Nat} (h : SkS s n) (ha : s.aside.length ≤ 8) (k b : Int) {L : List LineD} (hL : L.length ≤ 8) : SkS (opK k s b L).2 (n + 8) ∧ (opK k s b L).2.aside.length ≤ 8 := by
  have hs : SkS s (n + 8) := h.up (by omega)
  have hP : SkS (prepK s b L).2 (n + 8) ∧ (prepK s b L).2.aside.length ≤ 8 := by
    rcases prep_cases s b L with ⟨h, _⟩ | ⟨h0, _, h2, h⟩
    · rw [h]; exact ⟨hs, ha⟩
    · rw [h]; exact ⟨⟨hs.bats, hs.lines, by show L.length ≤ _; omega, hs.key⟩, hL⟩
  unfold opK
  split
  · exact hP
  split
  · exact hP
  split
  · rcases comm_cases s b with ⟨h, _⟩ | ⟨_, _, _, _, h1⟩
    · rw [h]; exact ⟨hs, ha⟩
    · rw [h1]
      have := take_s h b ha (by omega)
      exact ⟨⟨this.bats, this.lines, Nat.zero_le _, this.key⟩, Nat.zero_le _⟩
  split
  · rcases abort_cases s b with ⟨h, _⟩ | ⟨_, _, _, h⟩
    · rw [h]; exact ⟨hs, ha⟩
    · rw [h]; exact ⟨⟨hs.bats, hs.lines, Nat.zero_le _, hs.key⟩, Nat.zero_le _⟩
  split
  · exact ⟨hs, ha⟩
  split
  · exact ⟨hs, ha⟩
  · rcases deliv_cases s b L with ⟨h, _⟩ | ⟨_, _, _, h1⟩
    · rw [h]; exact ⟨hs, ha⟩
    · rw [h1]; exact ⟨take_s h b hL (by omega), ha⟩
theorem op_kind (s : SkD) (k b : Int) (L : List LineD) : (opK k s b L).2.kind = s.kind ∧ (opK k s b L).2.key = s.key := by
  have hP : (prepK s b L).2.kind = s.kind ∧ (prepK s b L).2.key = s.key := by
    rcases prep_cases s b L with ⟨h, _⟩ | ⟨_, _, _, h⟩ <;> rw [h] <;> exact ⟨rfl, rfl⟩
  unfold opK
  split
  · exact hP
  split
  · exact hP
  split
  · rcases comm_cases s b with ⟨h, _⟩ | ⟨_, _, _, _, h⟩ <;> rw [h] <;> exact ⟨rfl, rfl⟩
  split
  · rcases abort_cases s b with ⟨h, _⟩ | ⟨_, _, _, h⟩ <;> rw [h] <;> exact ⟨rfl, rfl⟩
  split
  · exact ⟨rfl, rfl⟩
  split
  · exact ⟨rfl, rfl⟩
  · rcases deliv_cases s b L with ⟨h, _⟩ | ⟨_, _, _, h⟩ <;> rw [h] <;> exact ⟨rfl, rfl⟩
inductive Hid (k : Int) (s : SkD) (b : Int) (L : List LineD) : Prop
  | prep (hk : k < 2) (hh : hasK s b = false) (e : opK k s b L = (0, { s with prep := b, aside := L }))
  | comm (hk : k = 2) (hh : hasK s b = false) (h1 : 1 ≤ b) (hb : b = s.prep) (e : opK k s b L = (0, { takeK s b s.aside with prep := 0, aside := [] }))
  | abort (hk : k = 3) (hb : b = s.prep) (e : opK k s b L = (0, { s with prep := 0, aside := [] }))
  | none (e : (opK k s b L).2 = s) (h : (opK k s b L).1 = 0 → hasK s b = true) (h3 : k = 3 → (opK k s b L).1 ≠ 0)
end Go.Proofs.YtemhapmbcbbljaaGreatDoor
end

section
namespace Go.Proofs.YtemhapmbcbbljaaGreatDoor
open Go.Vc
def intsL (l : List Int) : List UInt8 := l.flatMap fun x => (intB x).data.toList
def numsL (l : List Int) : List UInt8 := (numB (l.length : Int)).data.toList ++ (91 :: (intsL l ++ [93]))
def lineS (x : LineD) : ByteArray := intB x.batch ++ intB x.time ++ textB (rowB x.row) ++ intB x.n ++ intB x.cause ++ intB x.why
def linesL (l : List LineD) : List UInt8 := l.flatMap fun x => (lineS x).data.toList
def linesS (l : List LineD) : List UInt8 := (natB (l.length : Int)).data.toList ++ linesL l
def skB (s : SkD) : ByteArray := intB s.kind ++ ⟨(numsL s.key).toArray⟩ ++ ⟨(numsL s.bats).toArray⟩ ++ ⟨(linesS s.lines).toArray⟩ ++ intB s.prep ++ ⟨(linesS s.aside).toArray⟩
theorem intsL_app (a b : List Int) : intsL (a ++ b) = intsL a ++ intsL b := by simp [intsL]
theorem intsL_one (x : Int) : intsL [x] = (intB x).data.toList := by simp [intsL]
theorem intsL_len : ∀ {l : List Int}, (∀ x ∈ l, I64 x) → (intsL l).length ≤ l.length * 21
  | [], _ => by simp [intsL]
  | x :: l, h => by
    have ih := intsL_len (l := l) fun y hy => h y (by simp [hy])
    have hx := intB_size (h x (by simp))
    show ((intB x).data.toList ++ intsL l).length ≤ _
    rw [List.length_append, list_size, List.length_cons, Nat.add_mul]; omega
theorem linesL_app (a b : List LineD) : linesL (a ++ b) = linesL a ++ linesL b := by simp [linesL]
theorem linesL_one (x : LineD) : linesL [x] = (lineS x).data.toList := by simp [linesL]
structure LineW (x : LineD) : Prop where
  inn : x.In
  val : ∀ v ∈ x.row, (I64 v.kind ∧ I64 v.num) ∧ v.text.size ≤ 200
  row : x.row.length ≤ 12
theorem rowB_small {r : List ValD} (h1 : r.length ≤ 12) (h2 : ∀ v ∈ r, (I64 v.kind ∧ I64 v.num) ∧ v.text.size ≤ 200) : (rowB r).size ≤ 3189 := by
  have hL := rowL_len h2 (by decide) (by omega)
  have : r.length * (200 + 64) ≤ 12 * 264 := Nat.mul_le_mul h1 (Nat.le_refl _)
  unfold rowB
  rw [size_list]; omega
theorem lineS_size {x : LineD} (h : LineW x) : (lineS x).size ≤ 3330 := by
  have h0 := intB_size h.inn.batch
  have h1 := intB_size h.inn.time
  have h2 := intB_size h.inn.n
  have h3 := intB_size h.inn.cause
  have h4 := intB_size h.inn.why
  have h5 := rowB_small h.row h.val
  have h6 := textB_size (s := rowB x.row) (by omega)
  unfold lineS
  rw [size_app, size_app, size_app, size_app, size_app]; omega
theorem linesL_len : ∀ {l : List LineD}, (∀ x ∈ l, LineW x) → (linesL l).length ≤ l.length * 3330
  | [], _ => by simp [linesL]
  | x :: l, h => by
    have ih := linesL_len (l := l) fun y hy => h y (by simp [hy])
    have hx := lineS_size (h x (by simp))
    show ((lineS x).data.toList ++ linesL l).length ≤ _
    rw [List.length_append, list_size, List.length_cons, Nat.add_mul]; omega
theorem snoc_bytes (l : List UInt8) (c : UInt8) : (⟨l.toArray⟩ : ByteArray) ++ ByteArray.mk #[c] = ⟨(l ++ [c]).toArray⟩ := by
  apply ByteArray.ext
  apply Array.toList_inj.1
  simp [ByteArray.data_append]
theorem slz_i64 {M : List Nat} {w : World} {p : Option Addr} {l : List Int} (h : Sl M w p l) : ∀ x ∈ l, I64 x := fun x hx => by
  obtain ⟨i, hi, rfl⟩ := List.getElem_of_mem hx
  obtain ⟨_, _, _, _, _, _, _, hr⟩ := h i hi
  exact hr
theorem right_small {r : List ValD} (h : rightR r = true) : ∀ v ∈ r, v.text.size ≤ 200 := fun v hv => right_text2 h v hv
structure SkW (s : SkD) : Prop where
  kind : I64 s.kind
  prep : I64 s.prep
  key : ∀ x ∈ s.key, I64 x
  bats : ∀ x ∈ s.bats, I64 x
  lines : ∀ x ∈ s.lines, LineW x
  aside : ∀ x ∈ s.aside, LineW x
theorem lines_wE {M : List Nat} {w : World} {cs : List Value} {l : List LineD} (h : Elems M w cs l) (hr : ∀ x ∈ l, rightR x.row = true) : ∀ x ∈ l, LineW x := fun x hx => by
  have hrx := hr x hx
  obtain ⟨i, hi, rfl⟩ := List.getElem_of_mem hx
  obtain ⟨r, rc, he, h1, h2, h3, h4⟩ := lrow h hi
  exact ⟨h3, fun v hv => ⟨(sl_i64 h4 v hv).1, right_small hrx v hv⟩, right_len hrx⟩
theorem lines_wS {M : List Nat} {w : World} {p : Option Addr} {l : List LineD} (h : Sl M w p l) (hr : ∀ x ∈ l, rightR x.row = true) : ∀ x ∈ l, LineW x := by
  rcases Nat.eq_zero_or_pos l.length with h0 | h0
  · rw [List.eq_nil_of_length_eq_zero h0]; exact fun x hx => by simp at hx
  · obtain ⟨b, o, news, hp, g1, g2, g3, g4⟩ := h.cells line_one h0
    exact lines_wE g3 hr
theorem sk_w {st : SkD} {q : KP} {M : List Nat} {w : World} (hI : SkI st) (h1 : I64 st.kind) (h2 : I64 st.prep) (h : SkF q st M w) : SkW st :=
  ⟨h1, h2, slz_i64 h.2.1, fun x hx => (hI.pos x hx).2, lines_wE h.1 hI.row, lines_wS h.2.2 hI.arow⟩
theorem skB_size {s : SkD} (h : SkW s) {n : Nat} (hs : SkS s n) (hn : n ≤ 400000) : (skB s).size ≤ 200 + (s.key.length + s.bats.length) * 21 + (s.lines.length + s.aside.length) * 3330 := by
  have b1 := hs.key
  have b2 := hs.bats
  have b3 := hs.lines
  have b4 := hs.aside
  have k1 := intB_size h.kind
  have k2 := intB_size h.prep
  have nums : ∀ {l : List Int}, (∀ x ∈ l, I64 x) → l.length ≤ 8000000 → (ByteArray.mk (numsL l).toArray).size ≤ 23 + l.length * 21 := fun {l} hl hb => by
    have h1 := numB_size (n := (l.length : Int)) (by unfold I64; omega)
    have h2 := intsL_len hl
    rw [size_list]
    unfold numsL
    rw [List.length_append, list_size, List.length_cons, List.length_append, List.length_singleton]
    omega
  have lins : ∀ {l : List LineD}, (∀ x ∈ l, LineW x) → l.length ≤ 400000 → (ByteArray.mk (linesS l).toArray).size ≤ 22 + l.length * 3330 := fun {l} hl hb => by
    have h1 := natB_size (n := (l.length : Int)) (by unfold I64; omega)
    have h2 := linesL_len hl
    rw [size_list]
    unfold linesS
    rw [List.length_append, list_size]
    omega
  have c1 := nums h.key (by omega)
  have c2 := nums h.bats (by omega)
  have c3 := lins h.lines (by omega)
  have c4 := lins h.aside (by omega)
  unfold skB
  rw [size_app, size_app, size_app, size_app, size_app]
  omega
theorem GivesQ.in {Φ : PW} {P : Program} {f : FuncId} {args : Array Value} {v : Value} (h : GivesQ [] Φ P f args v) : GivesIn Φ P f args v := ⟨fun W w S c => h.go W w S c⟩
section
variable {Φ : PW} {q : KP} {st : SkD} {W w : World} {R S G : List Own} {p : Option Addr} {cap : Nat}
theorem list_q [Stable Φ] [hT : Has Φ TabI] {Q : List Own} {l : List Int} (src : SrcZ Q Φ p l) (hl : l.length ≤ 10000000) (hi : ∀ x ∈ l, I64 x) : GivesQ Q Φ Tryz.prog F.wire_list_int #[.slice p l.length cap, .func (.func F.wire_Int) #[] #[]] (.string ⟨(numsL l).toArray⟩) := by
  refine gives_q (Bwire_list_int_run p l.length cap F.wire_Int #[]) fun W R => fun b w G cx => ?_
  have hnum := numB_size (n := (l.length : Int)) (by unfold I64; omega)
  have e91 : (ByteArray.mk #[91]).size = 1 := rfl
  have e93 : (ByteArray.mk #[93]).size = 1 := rfl
  refine (Itoa_in hT.go (l.length : Int) (by unfold I64; omega)).toS cx ⟨by show (numB _).size + 1 ≤ _; omega, fun w G cx => ?_⟩
  refine WriteString_use (numB (l.length : Int) ++ ByteArray.mk #[91]) Bd.nil (Bd.fresh cx) (by rw [size_app, e91]; simp only [List.length_nil]; omega) fun R1 w hB cx => ⟨_, _, rfl, R1 ++ (Q ++ R), Φ, inferInstance, by rw [List.append_assoc]; exact cx, ?_⟩
  rw [List.nil_append] at hB
  clear cx
  obtain ⟨pre, hpre⟩ : ∃ pre, (numB (l.length : Int) ++ ByteArray.mk #[91]).data.toList = pre := ⟨_, rfl⟩
  have hpl : pre.length ≤ 21 := by rw [← hpre, list_size, size_app, e91]; omega
  rw [hpre] at hB
  refine exI_mk (fun iI R' Φ' k => ∃ (i : Nat) (B : List Own), iI = i ∧ i ≤ l.length ∧ BdT b (pre ++ intsL (l.take i)) B ∧ R' = B ++ (Q ++ R) ∧ Φ' = Φ ∧ k = l.length - i) ⟨⟨_, _, _, inferInstance, fun w G cx => cx, 0, R1, rfl, Nat.zero_le _, by rw [List.take_zero, show intsL [] = [] from rfl, List.append_nil]; exact hB, rfl, rfl, rfl⟩, ?_⟩
  clear hB
  rintro iI R2 Φ2 k _ ⟨i, B, rfl, hi', hB, rfl, rfl, rfl⟩
  have hlen := intsL_len (l := l.take i) fun x hx => hi x (List.mem_of_mem_take hx)
  rw [List.length_take] at hlen
  refine Br.intro (fun hlt => ?_) (fun hge => fun w G cx => ?_)
  · have hlt : i < l.length := by have := of_decide_eq_true hlt; omega
    obtain ⟨b', o', hp⟩ := src.ptr (by omega)
    have hx := intB_size (hi l[i] (List.getElem_mem _))
    have hstep : intsL (l.take (i + 1)) = intsL (l.take i) ++ (intB l[i]).data.toList := by rw [List.take_succ_eq_append_getElem hlt, intsL_app, intsL_one]
    refine ⟨by omega, ptrK_intro b' o' hp fun w G cx => ⟨l[i], by rw [Int.toNat_natCast]; exact src.rd hp ((Ctx.dropF cx).re (List.append_assoc _ _ _)) i hlt, fun w G cx => ⟨by kernel_rfl, (Int_in (.inl ⟨hT.go, hi l[i] (List.getElem_mem _)⟩)).toS cx fun w G cx => ?_⟩⟩⟩
    refine WriteString_use (intB l[i]) hB (cx.re (List.append_assoc _ _ _)) (by rw [List.length_append]; omega) fun B2 w hB2 cx => ⟨_, _, rfl, B2 ++ (Q ++ R), Φ2, inferInstance, by rw [List.append_assoc]; exact cx, by unfold I64; omega, _, Φ2, l.length - (i + 1), inferInstance, fun w G cx => cx, ⟨i + 1, B2, by omega, hlt, ?_, rfl, rfl, rfl⟩, by omega⟩
    rw [hstep, ← List.append_assoc]; exact hB2
  · have hge : i = l.length := by have := of_decide_eq_false hge; omega
    subst hge
    rw [List.take_length] at hB
    refine String_use hB (cx.re (List.append_assoc _ _ _)) fun w cx => ⟨_, rfl, Q ++ R, Φ2, inferInstance, cx, by rw [size_list, e93, List.length_append]; rw [List.take_length] at hlen; show pre.length + (intsL l).length + 1 ≤ 9223372036854775807; omega, fun w G cx => ⟨?_, cx.left⟩⟩
    rw [snoc_bytes, ← hpre]
    unfold numsL
    simp [ByteArray.data_append]
theorem Nums_q [Stable Φ] [hT : Has Φ TabI] {Q : List Own} {l : List Int} (src : SrcZ Q Φ p l) (hl : l.length ≤ 10000000) (hi : ∀ x ∈ l, I64 x) : GivesQ Q Φ Tryz.prog F.wire_Nums #[.slice p l.length cap] (.string ⟨(numsL l).toArray⟩) :=
  gives_q (Bwire_Nums_run p l.length cap) fun W R => fun w G cx => (list_q src hl hi).toS cx fun w G cx => ⟨rfl, cx.left⟩
theorem Nums_in [Stable Φ] [hT : Has Φ TabI] {l : List Int} [hΦ : Has Φ (fun M w => Sl M w p l)] (hl : l.length ≤ 10000000) : GivesIn Φ Tryz.prog F.wire_Nums #[.slice p l.length cap] (.string ⟨(numsL l).toArray⟩) :=
  .there (fun M w h => (hΦ.go M w h).there) fun hth => .know (fun M w h => slz_i64 (hΦ.go M w h)) fun hi => GivesQ.in (Nums_q (srcz_fact hth hΦ.go) hl hi)
set_option maxHeartbeats 1000000 in
theorem LinesB_q [Stable Φ] [hT : Has Φ TabI] {Q : List Own} {L : List LineD} {cs : List Value} (src : Src Q Φ p L cs) (hc : Rows7 cs L) (hl : L.length ≤ 1000000) (hw : ∀ x ∈ L, LineW x) : GivesQ Q Φ Tryz.prog F.sink_linesBytes #[.slice p L.length cap] (.string ⟨(linesS L).toArray⟩) := by
  refine gives_q (Bsink_linesBytes_run p L.length cap) fun W R => fun b w G cx => ?_
  have hnat := natB_size (n := (L.length : Int)) (by unfold I64; omega)
  refine (Num_in (.inl ⟨hT.go, by unfold I64; omega⟩)).toS cx fun w G cx => ?_
  refine WriteString_use (natB (L.length : Int)) Bd.nil (Bd.fresh cx) (by simp only [List.length_nil]; omega) fun R1 w hB cx => ⟨_, _, rfl, R1 ++ (Q ++ R), Φ, inferInstance, by rw [List.append_assoc]; exact cx, ?_⟩
  rw [List.nil_append] at hB
  clear cx
  obtain ⟨pre, hpre⟩ : ∃ pre, (natB (L.length : Int)).data.toList = pre := ⟨_, rfl⟩
  have hprel : pre.length ≤ 21 := by rw [← hpre, list_size]; omega
  rw [hpre] at hB
  refine exI_mk (fun iI R' Φ' k => ∃ (i : Nat) (B : List Own), iI = i ∧ i ≤ L.length ∧ BdT b (pre ++ linesL (L.take i)) B ∧ R' = B ++ (Q ++ R) ∧ Φ' = Φ ∧ k = L.length - i) ⟨⟨_, _, _, inferInstance, fun w G cx => cx, 0, R1, rfl, Nat.zero_le _, by rw [List.take_zero, show linesL [] = [] from rfl, List.append_nil]; exact hB, rfl, rfl, rfl⟩, ?_⟩
  clear hB
  rintro iI R2 Φ2 k _ ⟨i, B, rfl, hi', hB, rfl, rfl, rfl⟩
  have hpl := linesL_len (l := L.take i) fun x hx => hw x (List.mem_of_mem_take hx)
  rw [List.length_take] at hpl
  refine Br.intro (fun hlt => ?_) (fun hge => fun w G cx => ?_)
  · have hlt : i < L.length := by have := of_decide_eq_true hlt; omega
    obtain ⟨bb, oo, hp⟩ := src.ptr (by omega)
    obtain ⟨r, rc, he, k1, k2, k3⟩ := hc i hlt
    have hlw := hw L[i] (List.getElem_mem _)
    have hrs := rowB_small hlw.row hlw.val
    have s0 := intB_size hlw.inn.batch
    have s1 := intB_size hlw.inn.time
    have s2 := intB_size hlw.inn.n
    have s3 := intB_size hlw.inn.cause
    have s4 := intB_size hlw.inn.why
    have s5 := textB_size (s := rowB L[i].row) (by omega)
    have hlB := lineS_size hlw
    have hstep : linesL (L.take (i + 1)) = linesL (L.take i) ++ (lineS L[i]).data.toList := by rw [List.take_succ_eq_append_getElem hlt, linesL_app, linesL_one]
    refine ⟨by omega, ptrK_intro bb oo hp fun w G cx => ⟨L[i].no, L[i].batch, L[i].time, r, L[i].row.length, rc, L[i].n, L[i].cause, L[i].why, by rw [Int.toNat_natCast]; exact src_at (S := Q) (G := R ++ G) src hp ((Ctx.dropF cx).re (List.append_assoc _ _ _)) he, fun _ => ⟨B ++ (Q ++ R), Φ2, inferInstance, fun w G cx => cx, fun w G cx => ?_⟩⟩⟩
    refine (Int_in (.inl ⟨hT.go, hlw.inn.batch⟩)).toS cx ⟨fun w G cx => cx, fun w G cx => (Int_in (.inl ⟨hT.go, hlw.inn.time⟩)).toS cx ⟨fun w G cx => cx, by show (intB L[i].batch).size + (intB L[i].time).size ≤ _; omega, fun w G cx => (RowBytes_in r rc L[i].row hT.go (fun M w h => src_sl src hlt he h) (by have := hlw.row; omega) (fun v hv => by have := (hlw.val v hv).2; omega)).toS cx ⟨fun w G cx => cx, fun w G cx => (Text_in (.inl ⟨hT.go, by unfold I64; omega⟩) (by omega)).toS cx ⟨fun w G cx => cx, by show (intB L[i].batch ++ intB L[i].time).size + (textB (rowB L[i].row)).size ≤ _; rw [size_app]; omega, fun w G cx => (Int_in (.inl ⟨hT.go, hlw.inn.n⟩)).toS cx ⟨fun w G cx => cx, by show (intB L[i].batch ++ intB L[i].time ++ textB (rowB L[i].row)).size + (intB L[i].n).size ≤ _; rw [size_app, size_app]; omega, fun w G cx => (Int_in (.inl ⟨hT.go, hlw.inn.cause⟩)).toS cx ⟨fun w G cx => cx, by show (intB L[i].batch ++ intB L[i].time ++ textB (rowB L[i].row) ++ intB L[i].n).size + (intB L[i].cause).size ≤ _; rw [size_app, size_app, size_app]; omega, fun w G cx => (Int_in (.inl ⟨hT.go, hlw.inn.why⟩)).toS cx ⟨fun w G cx => cx, by show (intB L[i].batch ++ intB L[i].time ++ textB (rowB L[i].row) ++ intB L[i].n ++ intB L[i].cause).size + (intB L[i].why).size ≤ _; rw [size_app, size_app, size_app, size_app]; omega, fun w G cx => ?_⟩⟩⟩⟩⟩⟩⟩
    refine WriteString_use (lineS L[i]) hB (cx.re (List.append_assoc _ _ _)) (by rw [List.length_append]; omega) fun B2 w hB2 cx => ⟨_, _, rfl, B2 ++ (Q ++ R), Φ2, inferInstance, by rw [List.append_assoc]; exact cx, by unfold I64; omega, _, Φ2, L.length - (i + 1), inferInstance, fun w G cx => cx, ⟨i + 1, B2, by omega, hlt, ?_, rfl, rfl, rfl⟩, by omega⟩
    rw [hstep, ← List.append_assoc]; exact hB2
  · have hge : i = L.length := by have := of_decide_eq_false hge; omega
    subst hge
    rw [List.take_length] at hB
    refine String_use hB (cx.re (List.append_assoc _ _ _)) fun w cx => ⟨_, rfl, Q ++ R, Φ2, inferInstance, cx, fun w G cx => ⟨?_, cx.left⟩⟩
    rw [← hpre]; rfl
theorem LinesB_in [Stable Φ] [hT : Has Φ TabI] {L : List LineD} [hΦ : Has Φ (fun M w => Sl M w p L)] (hl : L.length ≤ 1000000) (hw : ∀ x ∈ L, LineW x) : GivesIn Φ Tryz.prog F.sink_linesBytes #[.slice p L.length cap] (.string ⟨(linesS L).toArray⟩) :=
  ⟨fun W w S c => by
    have hth := (hΦ.go _ _ c.phi).there
    obtain ⟨cs, c1⟩ := srcOf c (hΦ.go _ _ c.phi)
    exact GivesIn.use (GivesQ.in (LinesB_q (Φ := fun M w => Φ M w ∧ SrcF p L cs M w) (src_fact (Φ := fun M w => Φ M w ∧ SrcF p L cs M w) hth (fun M w h => h.2)) (rows7 c1.phi.2.2) hl hw)) c1 fun w' c => ⟨rfl, c.fst⟩⟩
theorem Bytes_q [Stable Φ] [hT : Has Φ TabI] [hF : Has Φ (SkF q st)] (hq : SkQ q st) (hW : SkW st) {n : Nat} (hs : SkS st n) (hn : n ≤ 400000) : GivesQ (SkO q st) Φ Tryz.prog F.sink_Sink_Bytes #[snk q] (.string (skB st)) := by
  have hsz := skB_size hW hs hn
  have h1 := hs.lines
  have h2 := hs.aside
  have h3 := hs.bats
  have h4 := hs.key
  have e : skB st = intB st.kind ++ ⟨(numsL st.key).toArray⟩ ++ ⟨(numsL st.bats).toArray⟩ ++ ⟨(linesS st.lines).toArray⟩ ++ intB st.prep ++ ⟨(linesS st.aside).toArray⟩ := rfl
  rw [e, size_app, size_app, size_app, size_app, size_app] at hsz
  have hK : Has Φ (fun M w => Sl M w q.kp st.key) := ⟨fun M w h => (hF.go M w h).2.1⟩
  have hA : Has Φ (fun M w => Sl M w q.ap st.aside) := ⟨fun M w h => (hF.go M w h).2.2⟩
  refine gives_q (Bsink_Sink_Bytes_run q.sb 0) fun W R => ?_
  refine ⟨SkO q st ++ R, Φ, inferInstance, fun w G cx => cx, st.kind, fun w G cx => ⟨_, sk_cell (i := 0) cx rfl, rfl⟩, q.kp, st.key.length, q.kc, fun w G cx => ⟨_, _, _, sk_cell (i := 1) cx rfl, rfl⟩, q.bp, st.bats.length, q.bc, fun w G cx => ⟨_, _, _, sk_cell (i := 2) cx rfl, rfl⟩, q.lp, st.lines.length, q.lc, fun w G cx => ⟨_, _, _, sk_cell (i := 3) cx rfl, rfl⟩, st.prep, fun w G cx => ⟨_, sk_cell (i := 4) cx rfl, rfl⟩, q.ap, st.aside.length, q.ac, fun w G cx => ⟨_, _, _, sk_cell (i := 5) cx rfl, rfl⟩, fun w G cx => ?_⟩
  have hr7 := rows7 (hF.go _ _ cx.phi).1
  refine (Int_in (.inl ⟨hT.go, hW.kind⟩)).toS cx ⟨fun w G cx => cx, fun w G cx => (Nums_in (l := st.key) (by omega)).toS cx ⟨fun w G cx => cx, by show (intB st.kind).size + (ByteArray.mk (numsL st.key).toArray).size ≤ _; omega, fun w G cx => (Nums_q (l := st.bats) (srcz_bats hq) (by omega) hW.bats).toS cx ⟨fun w G cx => cx, by show (intB st.kind ++ ByteArray.mk (numsL st.key).toArray).size + (ByteArray.mk (numsL st.bats).toArray).size ≤ _; rw [size_app]; omega, fun w G cx => (LinesB_q (L := st.lines) (src_sk hq fun M w h => (hF.go M w h).1) hr7 (by omega) hW.lines).toS cx ⟨fun w G cx => cx, by show (intB st.kind ++ ByteArray.mk (numsL st.key).toArray ++ ByteArray.mk (numsL st.bats).toArray).size + (ByteArray.mk (linesS st.lines).toArray).size ≤ _; rw [size_app, size_app]; omega, fun w G cx => (Int_in (.inl ⟨hT.go, hW.prep⟩)).toS cx ⟨fun w G cx => cx, by show (intB st.kind ++ ByteArray.mk (numsL st.key).toArray ++ ByteArray.mk (numsL st.bats).toArray ++ ByteArray.mk (linesS st.lines).toArray).size + (intB st.prep).size ≤ _; rw [size_app, size_app, size_app]; omega, fun w G cx => (LinesB_in (L := st.aside) (by omega) hW.aside).toS cx ⟨fun w G cx => cx, by show (intB st.kind ++ ByteArray.mk (numsL st.key).toArray ++ ByteArray.mk (numsL st.bats).toArray ++ ByteArray.mk (linesS st.lines).toArray ++ intB st.prep).size + (ByteArray.mk (linesS st.aside).toArray).size ≤ _; rw [size_app, size_app, size_app, size_app]; omega, fun w G cx => ⟨rfl, cx.left⟩⟩⟩⟩⟩⟩⟩
end
end Go.Proofs.YtemhapmbcbbljaaGreatDoor
end

section
namespace Go.Vc
def ErrAt (g : Nat) : PW := fun M w => g ∉ M ∧ ∃ ev, w.cell? ⟨g, 0, none⟩ = some ev ∧ (ev = .nilIface ∨ ∃ te pe, ev = .iface te pe)
instance instStableErrAt (g : Nat) : Stable (ErrAt g) := ⟨fun {M M' w w'} hs ⟨h1, ev, h2, h3⟩ => by
  have hlt : g < w.heap.size := by
    rcases Nat.lt_or_ge g w.heap.size with h' | h'
    · exact h'
    · simp [World.cell?, Array.getElem?_eq_none h'] at h2
  refine ⟨fun hm => ?_, ev, hs.chg.cell h2 h1, h3⟩
  rcases hs.sub g hm with h | h
  · exact h1 h
  · omega⟩
theorem chg_below {w w' : World} (h : Go.RowKit.Below w.heap.size w w') : Chg [] w w' := ⟨h.os, h.tape, h.output, h.size, fun k hk _ => h.block k hk⟩
theorem eqGuard_iface {P : Program} {op : BinOp} {t : TypeId} {ox oy : Operand} {u : TypeId} {v : Value} (w : World) : (eqGuard op t ox oy (.iface u v) .nilIface).run P w = .ok () w := by
  unfold eqGuard
  cases op <;> rfl
theorem eqGuard_nil {P : Program} {op : BinOp} {t : TypeId} {k : Nat} {v : Value} (w : World) : (eqGuard op t (.tmp k) (.const v) .nilIface .nilIface).run P w = .ok () w := by
  unfold eqGuard
  cases op <;> rfl
theorem neq_nil {P : Program} {op : BinOp} {t t' : TypeId} {k : Nat} {v : Value} (ht : P.isIface t' = true) (w : World) : ((eqGuard op t (.tmp k) (.const v) .nilIface .nilIface) >>= fun _ => binOp .neq t' .nilIface .nilIface).run P w = .ok (.bool false) w := by
  rw [Sem.run_bind, eqGuard_nil]
  exact Go.run_neq_nil_nil_at w t' ht
theorem neq_err {P : Program} {op : BinOp} {t t' : TypeId} {ox oy : Operand} {u : TypeId} {v : Value} (ht : P.isIface t' = true) (w : World) : ((eqGuard op t ox oy (.iface u v) .nilIface) >>= fun _ => binOp .neq t' (.iface u v) .nilIface).run P w = .ok (.bool true) w := by
  rw [Sem.run_bind, eqGuard_iface]
  exact Go.run_neq_iface_nil w t' ht u v
end Go.Vc
namespace Go.Proofs.YtemhapmbcbbljaaGreatDoor
open Go.Vc
def NumI : PW := fun M w => TabI M w ∧ ErrAt 2 M w ∧ ErrAt 3 M w
instance instStableNumI : Stable NumI := instStableAnd TabI (fun M w => ErrAt 2 M w ∧ ErrAt 3 M w)
def bs (l : List UInt8) : ByteArray := ⟨l.toArray⟩
theorem bs_list (l : List UInt8) : (bs l).data.toList = l := rfl
theorem bs_size (l : List UInt8) : (bs l).size = l.length := size_list l
theorem bs_ext (l : List UInt8) (a b : Nat) : (bs l).extract a b = bs ((l.drop a).take (b - a)) := by
  apply ByteArray.ext
  apply Array.toList_inj.1
  rw [ByteArray.data_extract, Array.toList_extract]
  rfl
theorem bs_inj {a b : List UInt8} : bs a = bs b ↔ a = b := ⟨fun h => by have := congrArg (fun x => x.data.toList) h; exact this, fun h => by rw [h]⟩
abbrev RdS := List UInt8 × Bool
def numP (e : UInt8) (least : Int) (l : List UInt8) : Option (Int × List UInt8) :=
  let i := Lib.indexByte (l.take 21) e
  if i < 0 then none else match Lib.atoiAll (l.take i.toNat) with
    | .ok n => if Lib.itoa n = l.take i.toNat ∧ least ≤ n then some (n, l.drop (i.toNat + 1)) else none
    | _ => none
def stepN (e : UInt8) (least : Int) (st : RdS) : Int × RdS := match numP e least st.1 with
  | some (n, r) => (n, (r, st.2))
  | none => (0, ([], true))
def stepC (c : UInt8) (st : RdS) : RdS := match st.1 with
  | [] => ([], true)
  | x :: r => if x = c then (r, st.2) else ([], true)
def stepT (st : RdS) : ByteArray × RdS :=
  let a := stepN 58 0 st
  if (a.2.1.length : Int) < a.1 then (ByteArray.mk #[], ([], true)) else
    let c := stepC 44 (a.2.1.drop a.1.toNat, a.2.2)
    (if c.2 then ByteArray.mk #[] else bs (a.2.1.take a.1.toNat), c)
theorem at_of_split {l r : List UInt8} {i : Nat} {e : UInt8} (h : l.take i ++ e :: r = l) (hi : i < l.length) : l[i]? = some e := by
  have hl : (l.take i).length = i := by rw [List.length_take]; omega
  rw [← h, List.getElem?_append_right (by omega), hl, Nat.sub_self]
  rfl
theorem index_neg : ∀ (l : List UInt8) (c : UInt8), -1 ≤ Lib.indexByte l c ∧ (Lib.indexByte l c = -1 ∨ (0 ≤ Lib.indexByte l c ∧ Lib.indexByte l c < l.length ∧ l.take (Lib.indexByte l c).toNat ++ c :: l.drop ((Lib.indexByte l c).toNat + 1) = l ∧ c ∉ l.take (Lib.indexByte l c).toNat))
  | [], c => by simp [Lib.indexByte]
  | b :: l, c => by
    have ih := index_neg l c
    unfold Lib.indexByte
    by_cases hb : (b == c) = true
    · rw [if_pos hb]
      have : b = c := by simpa using hb
      subst this
      refine ⟨by omega, .inr ⟨by omega, by simp, by simp, by simp⟩⟩
    · rw [if_neg hb]
      by_cases h1 : (Lib.indexByte l c == -1) = true
      · rw [if_pos h1]; exact ⟨by omega, .inl rfl⟩
      · rw [if_neg h1]
        have h1 : Lib.indexByte l c ≠ -1 := by simpa using h1
        obtain ⟨h2, h3⟩ := ih
        rcases h3 with h3 | ⟨h3, h4, h5, h6⟩
        · exact absurd h3 h1
        · have e : (Lib.indexByte l c + 1).toNat = (Lib.indexByte l c).toNat + 1 := by omega
          refine ⟨by omega, .inr ⟨by omega, by simp; omega, ?_, ?_⟩⟩
          · rw [e, List.take_succ_cons, List.drop_succ_cons, List.cons_append, h5]
          · rw [e, List.take_succ_cons, List.mem_cons, not_or]
            exact ⟨fun e => hb (by simp [e]), h6⟩
theorem index_least {l : List UInt8} {c : UInt8} {a r : List UInt8} (hl : l = a ++ c :: r) (hc : c ∉ a) : Lib.indexByte l c = a.length := by
  subst hl
  induction a with
  | nil => simp [Lib.indexByte]
  | cons b a ih =>
    have hb : b ≠ c := fun e => hc (by simp [e])
    have ih := ih fun h => hc (by simp [h])
    rw [List.cons_append]
    unfold Lib.indexByte
    rw [if_neg (by simpa using hb), if_neg (by rw [ih]; simp), ih]
    simp
theorem digits_chars : ∀ (u : Nat), ∀ c ∈ Lib.decDigits u, 48 ≤ c.toNat ∧ c.toNat ≤ 57 := by
  intro u
  induction u using Nat.strongRecOn with
  | _ u ih =>
    intro c hc
    rw [Lib.decDigits] at hc
    split at hc
    · rename_i h
      rw [List.mem_singleton] at hc
      subst hc
      have : (UInt8.ofNat (48 + u)).toNat = 48 + u := by simp; omega
      omega
    · rename_i h
      rcases List.mem_append.1 hc with hc | hc
      · exact ih (u / 10) (by omega) c hc
      · rw [List.mem_singleton] at hc
        subst hc
        have : (UInt8.ofNat (48 + u % 10)).toNat = 48 + u % 10 := by simp; omega
        omega
theorem itoa_chars {n : Int} {c : UInt8} (h : c ∈ Lib.itoa n) : c.toNat = 45 ∨ 48 ≤ c.toNat ∧ c.toNat ≤ 57 := by
  unfold Lib.itoa at h
  split at h
  · rcases List.mem_cons.1 h with rfl | h
    · left; rfl
    · right; exact digits_chars _ c h
  · right; exact digits_chars _ c h
def digV (acc : Nat) (l : List UInt8) : Nat := l.foldl (fun a c => a * 10 + (c.toNat - 48)) acc
theorem digV_snoc (acc : Nat) (l : List UInt8) (c : UInt8) : digV acc (l ++ [c]) = digV acc l * 10 + (c.toNat - 48) := by simp [digV]
theorem digV_dec : ∀ u : Nat, digV 0 (Lib.decDigits u) = u := by
  intro u
  induction u using Nat.strongRecOn with
  | _ u ih =>
    rw [Lib.decDigits]
    split
    · rename_i h
      show 0 * 10 + ((UInt8.ofNat (48 + u)).toNat - 48) = u
      have : (UInt8.ofNat (48 + u)).toNat = 48 + u := by simp; omega
      omega
    · rename_i h
      rw [digV_snoc, ih (u / 10) (by omega)]
      have : (UInt8.ofNat (48 + u % 10)).toNat = 48 + u % 10 := by simp; omega
      omega
theorem digV_mono : ∀ (l : List UInt8) (acc : Nat), acc ≤ digV acc l
  | [], acc => Nat.le_refl _
  | c :: l, acc => by
    have := digV_mono l (acc * 10 + (c.toNat - 48))
    show acc ≤ digV (acc * 10 + (c.toNat - 48)) l
    omega
theorem parse_dig : ∀ (l : List UInt8) (acc : Nat), (∀ c ∈ l, 48 ≤ c.toNat ∧ c.toNat ≤ 57) → digV acc l < 18446744073709551616 → Lib.parseUint10 acc l = .ok (digV acc l)
  | [], acc, _, _ => rfl
  | c :: l, acc, hc, h => by
    have h0 := hc c (by simp)
    have hm := digV_mono l (acc * 10 + (c.toNat - 48))
    have e : digV acc (c :: l) = digV (acc * 10 + (c.toNat - 48)) l := rfl
    rw [e] at h ⊢
    unfold Lib.parseUint10
    rw [if_pos h0, if_neg (by omega), if_neg (by omega)]
    exact parse_dig l _ (fun d hd => hc d (by simp [hd])) h
theorem dec_ne (u : Nat) : Lib.decDigits u ≠ [] := by
  intro e
  have h1 := Lib.decDigits_length u
  have h2 := Lib.nDigits_pos u
  rw [e] at h1
  simp at h1
  omega
theorem mag_dec {u : Nat} (h : u < 18446744073709551616) : Lib.parseMag (Lib.decDigits u) = .ok u := by
  unfold Lib.parseMag
  rw [if_neg (dec_ne u), parse_dig _ 0 (digits_chars u) (by rw [digV_dec]; exact h), digV_dec]
theorem atoi_itoa {n : Int} (h : I64 n) : Lib.atoiAll (Lib.itoa n) = .ok n := by
  unfold I64 at h
  unfold Lib.itoa
  split
  · rename_i hn
    have hm := mag_dec (u := n.natAbs) (by omega)
    unfold Lib.atoiAll
    simp only
    rw [if_pos (.inr rfl), hm]
    simp only
    have e45 : (45 : UInt8).toNat = 45 := rfl
    rw [if_neg (by intro h; exact h.1 e45), if_neg (by intro h; omega), if_pos e45]
    congr 1
    omega
  · rename_i hn
    have hm := mag_dec (u := n.toNat) (by omega)
    obtain ⟨c, r, hcr⟩ : ∃ c r, Lib.decDigits n.toNat = c :: r := by
      cases hd : Lib.decDigits n.toNat with
      | nil => exact absurd hd (dec_ne _)
      | cons c r => exact ⟨c, r, rfl⟩
    have h0 := digits_chars n.toNat c (by rw [hcr]; simp)
    rw [hcr] at hm ⊢
    unfold Lib.atoiAll
    simp only
    rw [if_neg (by omega), hm]
    simp only
    rw [if_neg (by omega), if_neg (by omega), if_neg (by omega)]
    congr 1
    omega
theorem numP_iff {e : UInt8} (he : e.toNat = 58 ∨ e.toNat = 59 ∨ e.toNat = 91) {least : Int} {l : List UInt8} {n : Int} {r : List UInt8} : numP e least l = some (n, r) ↔ (I64 n ∧ least ≤ n) ∧ l = Lib.itoa n ++ e :: r := by
  have hne : ∀ n : Int, e ∉ Lib.itoa n := fun n h => by have := itoa_chars h; omega
  constructor
  · intro h
    unfold numP at h
    simp only at h
    split at h
    · cases h
    · rename_i hi
      split at h
      · rename_i m hm
        split at h
        · rename_i hc
          cases h
          have hb := Lib.atoiAll_bounds hm
          obtain ⟨_, h3⟩ := index_neg (l.take 21) e
          rcases h3 with h3 | ⟨h3, h4, h5, h6⟩
          · omega
          · refine ⟨⟨by unfold I64; omega, hc.2⟩, ?_⟩
            rw [hc.1]
            have hlt : (Lib.indexByte (l.take 21) e).toNat < (l.take 21).length := by omega
            have hlt2 : (Lib.indexByte (l.take 21) e).toNat < l.length := by rw [List.length_take] at hlt; omega
            have hg : l[(Lib.indexByte (l.take 21) e).toNat] = e := by
              have h7 : (l.take 21)[(Lib.indexByte (l.take 21) e).toNat]? = some e := at_of_split h5 (by omega)
              rw [List.getElem?_take_of_lt (by rw [List.length_take] at hlt; omega), List.getElem?_eq_getElem hlt2] at h7
              exact Option.some.inj h7
            conv => lhs; rw [← List.take_append_drop (Lib.indexByte (l.take 21) e).toNat l, List.drop_eq_getElem_cons hlt2, hg]
        · cases h
      · cases h
  · rintro ⟨⟨h1, h2⟩, rfl⟩
    have hlen := itoa_len h1
    have ht : (Lib.itoa n ++ e :: r).take 21 = Lib.itoa n ++ e :: r.take (20 - (Lib.itoa n).length) := by
      rw [List.take_append, List.take_of_length_le (by omega)]
      congr 1
      rw [show 21 - (Lib.itoa n).length = (20 - (Lib.itoa n).length) + 1 by omega, List.take_succ_cons]
    have hi := index_least ht (hne n)
    unfold numP
    simp only
    rw [hi, if_neg (by omega), Int.toNat_natCast, List.take_left', atoi_itoa h1]
    · simp only
      rw [if_pos ⟨by simp, h2⟩]
      congr 2
      rw [List.drop_append, List.drop_of_length_le (by omega), List.nil_append, show (Lib.itoa n).length + 1 - (Lib.itoa n).length = 1 by omega]
      rfl
    · rfl
abbrev rd (b : Nat) (st : RdS) : Own := .blk b [.string (bs st.1), .bool st.2] 108
section
variable {W w : World} {R G S : List Own} {Φ : PW} {b : Nat} {st : RdS}
theorem Open_use [Stable Φ] (l : List UInt8) (c : Ctx W w S Φ) {K : Ending → World → Prop} (hk : ∀ b w', Ctx W w' (rd b (l, false) :: S) Φ → K (.returned (.pointer (some ⟨b, 0, none⟩))) w') :
    Calls Tryz.prog F.wire_Open #[.string (bs l)] w K := by
  refine (Bwire_Open_run (bs l) (J := fun u w' => K (.returned u) w') c ?_).mono fun e w' ⟨v, he, hj⟩ => by rw [he]; exact hj
  exact fun b w G cx => hk b w (Ctx.left (S := rd b (l, false) :: S) cx)
theorem fail_use [Stable Φ] (c : Ctx W w (rd b st :: S) Φ) {K : Ending → World → Prop} (hk : ∀ w', Ctx W w' (rd b ([], true) :: S) Φ → K (.returned (.tuple #[])) w') :
    Calls Tryz.prog F.wire_Reader_fail #[.pointer (some ⟨b, 0, none⟩)] w K := by
  refine (Bwire_Reader_fail_run b 0 (J := fun u w' => K (.returned u) w') c ?_).mono fun e w' ⟨v, he, hj⟩ => by rw [he]; exact hj
  refine fun w G cx => ⟨cx.can 0 rfl (by simp), fun w' hw' => ⟨.blk b [.string (bs []), .bool st.2] 108 :: S, Φ, inferInstance, cx.put 0 hw' rfl, fun w G cx => ⟨cx.can 0 rfl (by simp), fun w' hw' => ⟨rd b ([], true) :: S, Φ, inferInstance, cx.put 0 hw' rfl, fun w G cx => hk w cx.left⟩⟩⟩⟩
theorem fail_to [Stable Φ] (c : Ctx W w (rd b st :: S ++ G) Φ) {K : List Own → PW → Prop} (hk : K (rd b ([], true) :: S) Φ) :
    Calls Tryz.prog F.wire_Reader_fail #[.pointer (some ⟨b, 0, none⟩)] w fun e w' => e = .returned (.tuple #[]) ∧ ∃ R' Φ', Stable Φ' ∧ Ctx W w' (R' ++ G) Φ' ∧ K R' Φ' :=
  fail_use (S := S ++ G) c fun w' c => ⟨rfl, rd b ([], true) :: S, Φ, inferInstance, c, hk⟩
theorem index_g (s : ByteArray) (c : Int) : Gives Tryz.prog F.strings_IndexByte #[.string s, .int .u8 c] (.int .i64 (Lib.indexByte s.data.toList c.toNat.toUInt8)) :=
  Quiet.gives ⟨fun w => Any.strings_IndexByte Tryz.lays137 s c w⟩
theorem atoi_to [Stable Φ] (h1 : ∀ M w, Φ M w → ErrAt 2 M w) (h2 : ∀ M w, Φ M w → ErrAt 3 M w) (s : ByteArray) (hs : s.size ≤ 1000000) (c : Ctx W w (R ++ G) Φ) {K1 : Int → List Own → PW → Prop} {K2 : Int → TypeId → Value → List Own → PW → Prop}
    (k1 : ∀ n, Lib.atoiAll s.data.toList = .ok n → K1 n R Φ) (k2 : ∀ n t v, (∀ m, Lib.atoiAll s.data.toList ≠ .ok m) → K2 n t v R Φ) :
    Calls Tryz.prog F.strconv_Atoi #[.string s] w fun e w' => (∃ n : Int, e = .returned (.tuple #[.int .i64 n, .nilIface]) ∧ ∃ R' Φ', Stable Φ' ∧ Ctx W w' (R' ++ G) Φ' ∧ K1 n R' Φ') ∨
      ∃ (n : Int) (t : TypeId) (v : Value), e = .returned (.tuple #[.int .i64 n, .iface t v]) ∧ ∃ R' Φ', Stable Φ' ∧ Ctx W w' (R' ++ G) Φ' ∧ K2 n t v R' Φ' := by
  obtain ⟨_, ev, hv, hev⟩ := h1 _ _ c.phi
  obtain ⟨_, er, hr, her⟩ := h2 _ _ c.phi
  cases h : Lib.atoiAll s.data.toList
  · rename_i n
    refine (Any.strconv_Atoi_ok Tryz.laysC172 s (by omega) n h w).mono fun e w' ⟨he, hw⟩ => .inl ⟨n, he, R, Φ, inferInstance, ?_, k1 n h⟩
    rcases hw with rfl | ⟨t, rfl⟩
    · exact c
    · exact c.call (chg_below (Lib.bytesWorld_below _ _ _))
  · exact (Any.strconv_Atoi_syntax Tryz.laysC172 s (by omega) h ev w hv hev).mono fun e w' ⟨N, he, _, _, hb⟩ => .inr ⟨_, _, _, he, R, Φ, inferInstance, c.call (chg_below hb), k2 _ _ _ fun m hm => by rw [h] at hm; cases hm⟩
  · exact (Any.strconv_Atoi_range Tryz.laysC172 s (by omega) h er w hr her).mono fun e w' ⟨N, he, _, _, hb⟩ => .inr ⟨_, _, _, he, R, Φ, inferInstance, c.call (chg_below hb), k2 _ _ _ fun m hm => by rw [h] at hm; cases hm⟩
theorem stepN_none {e : UInt8} {least : Int} (h : numP e least st.1 = none) : stepN e least st = (0, ([], true)) := by unfold stepN; rw [h]
theorem stepN_some {e : UInt8} {least n : Int} {r : List UInt8} (h : numP e least st.1 = some (n, r)) : stepN e least st = (n, (r, st.2)) := by unfold stepN; rw [h]
set_option maxHeartbeats 2000000 in
theorem number_use [Stable Φ] (hΦ : ∀ M w, Φ M w → NumI M w) (e : Int) (least : Int) (hl : st.1.length ≤ 1000000000) (c : Ctx W w (rd b st :: S) Φ) {K : Ending → World → Prop}
    (hk : ∀ w', Ctx W w' (rd b (stepN e.toNat.toUInt8 least st).2 :: S) Φ → K (.returned (.int .i64 (stepN e.toNat.toUInt8 least st).1)) w') :
    Calls Tryz.prog F.wire_Reader_number #[.pointer (some ⟨b, 0, none⟩), .int .u8 e, .int .i64 least] w K := by
  refine (Bwire_Reader_number_run b 0 e least (J := fun u w' => K (.returned u) w') c ?_).mono fun e w' ⟨v, he, hj⟩ => by rw [he]; exact hj
  clear c
  obtain ⟨l, bad⟩ := st
  simp only at hl
  have hsz : (bs l).size = l.length := bs_size l
  have hmin : (min ((bs l).size : Int) 21).toNat = min l.length 21 := by rw [hsz]; omega
  have hhead : (bs l).extract 0 (min ((bs l).size : Int) 21).toNat = bs (l.take 21) := by
    rw [hmin, bs_ext, List.drop_zero, Nat.sub_zero]
    congr 1
    rcases Nat.le_total l.length 21 with h | h
    · rw [Nat.min_eq_left h, List.take_of_length_le (Nat.le_refl _), List.take_of_length_le h]
    · rw [Nat.min_eq_right h]
  refine fun w G cx => ⟨bs l, cx.get 0 rfl rfl, bs l, cx.get 0 rfl rfl, by omega, fun w G cx => ?_⟩
  rw [hhead]
  refine (index_g (bs (l.take 21)) e).in.toI (R := rd b (l, bad) :: S) cx ?_
  rw [bs_list]
  obtain ⟨i, hi⟩ : ∃ i, Lib.indexByte (l.take 21) e.toNat.toUInt8 = i := ⟨_, rfl⟩
  obtain ⟨hge, hidx⟩ := index_neg (l.take 21) e.toNat.toUInt8
  rw [hi] at hge hidx ⊢
  have failK : numP e.toNat.toUInt8 least l = none → ∀ (w : World) (G : List Own), Ctx W w (rd b (l, bad) :: S ++ G) Φ → Calls Tryz.prog F.wire_Reader_fail #[.pointer (some ⟨b, 0, none⟩)] w fun e w' => e = .returned (.tuple #[]) ∧ ∃ R' Φ', Stable Φ' ∧ Ctx W w' (R' ++ G) Φ' ∧ ∀ w F1, Ctx W w (R' ++ F1) Φ' → K (.returned (.int .i64 0)) w := fun hn w G cx => by
    rw [stepN_none (st := (l, bad)) hn] at hk
    exact fail_to (S := S) cx fun w F1 cx => hk w cx.left
  refine Br.intro (fun hneg => fun w G cx => failK ?_ w G cx) (fun hpos => ?_)
  · unfold numP
    simp only [hi]
    rw [if_pos (of_decide_eq_true hneg)]
  have hpos := of_decide_eq_false hpos
  rcases hidx with hidx | ⟨_, hlt, _, _⟩
  · omega
  have hlt2 : i.toNat < (l.take 21).length := by omega
  have hll : (l.take 21).length ≤ l.length := by rw [List.length_take]; omega
  have h21 : (l.take 21).length ≤ 21 := by rw [List.length_take]; omega
  have hhd : (bs (l.take 21)).extract 0 i.toNat = bs (l.take i.toNat) := by
    rw [bs_ext, List.drop_zero, Nat.sub_zero, List.take_take, Nat.min_eq_left (by omega)]
  refine ⟨⟨by omega, by rw [bs_size]; omega⟩, fun w G cx => ?_⟩
  rw [hhd]
  refine atoi_to (R := rd b (l, bad) :: S) (fun M w h => (hΦ M w h).2.1) (fun M w h => (hΦ M w h).2.2) (bs (l.take i.toNat)) (by rw [bs_size, List.length_take]; omega) cx (fun n hn => ?_) (fun n t v hn => ?_)
  · rw [bs_list] at hn
    have hb := Lib.atoiAll_bounds hn
    refine ⟨rd b (l, bad) :: S, Φ, inferInstance, fun w G cx => cx, false, fun w => neq_nil (by decide +kernel) w, Br.intro (fun h => by cases h) (fun _ => ⟨⟨by omega, by rw [bs_size]; omega⟩, fun w G cx => ?_⟩)⟩
    refine (Itoa_in (fun M w h => (hΦ M w h).1) n (by unfold I64; omega)).toS cx ⟨fun w G cx => cx, Br.intro (fun hne => fun w G cx => failK ?_ w G cx) (fun heq => Br.intro (fun hls => fun w G cx => failK ?_ w G cx) (fun hls => fun w G cx => ?_))⟩
    · have hne := of_decide_eq_true hne
      unfold numP
      simp only [hi]
      rw [if_neg (by omega), hn]
      simp only
      rw [if_neg (fun h => hne (by show bs (Lib.itoa n) = _; rw [h.1]))]
    · unfold numP
      simp only [hi]
      rw [if_neg (by omega), hn]
      simp only
      rw [if_neg (fun h => by have := of_decide_eq_true hls; omega)]
    · have heq : Lib.itoa n = l.take i.toNat := bs_inj.1 (Decidable.not_not.1 (of_decide_eq_false heq))
      have hls := of_decide_eq_false hls
      have hnum : numP e.toNat.toUInt8 least l = some (n, l.drop (i.toNat + 1)) := by
        unfold numP
        simp only [hi]
        rw [if_neg (by omega), hn]
        simp only
        rw [if_pos ⟨heq, by omega⟩]
      rw [stepN_some (st := (l, bad)) hnum] at hk
      have hex : (bs l).extract (i + 1).toNat (bs l).size = bs (l.drop (i.toNat + 1)) := by
        rw [bs_ext, hsz, show (i + 1).toNat = i.toNat + 1 by omega]
        congr 1
        exact List.take_of_length_le (by rw [List.length_drop]; omega)
      refine ⟨bs l, cx.get 0 rfl rfl, ?_, ⟨by omega, by omega, Nat.le_refl _⟩, fun w G cx => ⟨cx.can 0 rfl (by simp), fun w' hw' => ?_⟩⟩
      · unfold I64
        omega
      rw [hex] at hw'
      exact ⟨rd b (l.drop (i.toNat + 1), bad) :: S, Φ, inferInstance, cx.put 0 hw' rfl, fun w G cx => hk w cx.left⟩
  · rw [bs_list] at hn
    refine ⟨[], fun _ _ => True, inferInstance, fun w G cx => (cx.weak fun _ _ _ => trivial).right, true, fun w => ?_, Br.intro (fun _ => fun w G cx => failK ?_ w G cx) (fun h => by cases h)⟩
    · exact neq_err (by decide +kernel) w
    · unfold numP
      simp only [hi]
      rw [if_neg (by omega)]
theorem number_to [Stable Φ] (hΦ : ∀ M w, Φ M w → NumI M w) (e : Int) (least : Int) (hl : st.1.length ≤ 1000000000) (c : Ctx W w (rd b st :: S ++ G) Φ) {K : Int → List Own → PW → Prop}
    (hk : K (stepN e.toNat.toUInt8 least st).1 (rd b (stepN e.toNat.toUInt8 least st).2 :: S) Φ) :
    Calls Tryz.prog F.wire_Reader_number #[.pointer (some ⟨b, 0, none⟩), .int .u8 e, .int .i64 least] w fun e w' => ∃ n, e = .returned (.int .i64 n) ∧ ∃ R' Φ', Stable Φ' ∧ Ctx W w' (R' ++ G) Φ' ∧ K n R' Φ' :=
  number_use (S := S ++ G) hΦ e least hl c fun w' c => ⟨_, rfl, _, Φ, inferInstance, c, hk⟩
def rdInt (st : RdS) : Int × RdS := stepN 59 (-9223372036854775808) st
def rdNat (st : RdS) : Int × RdS := stepN 59 0 st
theorem RInt_to [Stable Φ] (hΦ : ∀ M w, Φ M w → NumI M w) (hl : st.1.length ≤ 1000000000) (c : Ctx W w (rd b st :: S ++ G) Φ) {K : Int → List Own → PW → Prop}
    (hk : K (rdInt st).1 (rd b (rdInt st).2 :: S) Φ) :
    Calls Tryz.prog F.wire_Reader_Int #[.pointer (some ⟨b, 0, none⟩)] w fun e w' => ∃ n, e = .returned (.int .i64 n) ∧ ∃ R' Φ', Stable Φ' ∧ Ctx W w' (R' ++ G) Φ' ∧ K n R' Φ' := by
  refine (Bwire_Reader_Int_run b 0 (J := fun u w' => ∃ n, (Ending.returned u) = .returned (.int .i64 n) ∧ ∃ R' Φ', Stable Φ' ∧ Ctx W w' (R' ++ G) Φ' ∧ K n R' Φ') (R := rd b st :: (S ++ G)) c ?_).mono fun e w' ⟨v, he, hj⟩ => by rw [he]; exact hj
  exact fun w F1 cx => number_to (S := S ++ G) hΦ 59 _ hl cx fun w F1 cx => ⟨_, rfl, _, Φ, inferInstance, cx.left, hk⟩
theorem RNum_to [Stable Φ] (hΦ : ∀ M w, Φ M w → NumI M w) (hl : st.1.length ≤ 1000000000) (c : Ctx W w (rd b st :: S ++ G) Φ) {K : Int → List Own → PW → Prop}
    (hk : K (rdNat st).1 (rd b (rdNat st).2 :: S) Φ) :
    Calls Tryz.prog F.wire_Reader_Num #[.pointer (some ⟨b, 0, none⟩)] w fun e w' => ∃ n, e = .returned (.int .i64 n) ∧ ∃ R' Φ', Stable Φ' ∧ Ctx W w' (R' ++ G) Φ' ∧ K n R' Φ' := by
  refine (Bwire_Reader_Num_run b 0 (J := fun u w' => ∃ n, (Ending.returned u) = .returned (.int .i64 n) ∧ ∃ R' Φ', Stable Φ' ∧ Ctx W w' (R' ++ G) Φ' ∧ K n R' Φ') (R := rd b st :: (S ++ G)) c ?_).mono fun e w' ⟨v, he, hj⟩ => by rw [he]; exact hj
  exact fun w F1 cx => number_to (S := S ++ G) hΦ 59 _ hl cx fun w F1 cx => ⟨_, rfl, _, Φ, inferInstance, cx.left, hk⟩
theorem Left_to [Stable Φ] (c : Ctx W w (rd b st :: S ++ G) Φ) {K : Int → List Own → PW → Prop} (hk : K st.1.length (rd b st :: S) Φ) :
    Calls Tryz.prog F.wire_Reader_Left #[.pointer (some ⟨b, 0, none⟩)] w fun e w' => ∃ n, e = .returned (.int .i64 n) ∧ ∃ R' Φ', Stable Φ' ∧ Ctx W w' (R' ++ G) Φ' ∧ K n R' Φ' := by
  refine (Bwire_Reader_Left_run b 0 (J := fun u w' => ∃ n, (Ending.returned u) = .returned (.int .i64 n) ∧ ∃ R' Φ', Stable Φ' ∧ Ctx W w' (R' ++ G) Φ' ∧ K n R' Φ') (R := rd b st :: (S ++ G)) c ?_).mono fun e w' ⟨v, he, hj⟩ => by rw [he]; exact hj
  exact fun w F1 cx => ⟨bs st.1, cx.get 0 rfl rfl, fun w F1 cx => ⟨st.1.length, by rw [bs_size], _, Φ, inferInstance, cx.left, hk⟩⟩
def rdDone (st : RdS) : Bool := !st.2 && decide (st.1 = [])
theorem Done_to [Stable Φ] (c : Ctx W w (rd b st :: S ++ G) Φ) {K : Bool → List Own → PW → Prop} (hk : K (rdDone st) (rd b st :: S) Φ) :
    Calls Tryz.prog F.wire_Reader_Done #[.pointer (some ⟨b, 0, none⟩)] w fun e w' => ∃ n, e = .returned (.bool n) ∧ ∃ R' Φ', Stable Φ' ∧ Ctx W w' (R' ++ G) Φ' ∧ K n R' Φ' := by
  refine (Bwire_Reader_Done_run b 0 (J := fun u w' => ∃ n, (Ending.returned u) = .returned (.bool n) ∧ ∃ R' Φ', Stable Φ' ∧ Ctx W w' (R' ++ G) Φ' ∧ K n R' Φ') (R := rd b st :: (S ++ G)) c ?_).mono fun e w' ⟨v, he, hj⟩ => by rw [he]; exact hj
  refine fun w F1 cx => ⟨st.2, cx.get 0 rfl rfl, bs st.1, fun _ => cx.get 0 rfl rfl, fun w F1 cx => ⟨rdDone st, ?_, _, Φ, inferInstance, cx.left, hk⟩⟩
  have e : decide (bs st.1 = ByteArray.mk #[]) = decide (st.1 = []) := by
    rw [show ByteArray.mk #[] = bs [] from rfl]
    exact decide_eq_decide.2 bs_inj
  rw [e]
  rfl
theorem prefix_one (c : UInt8) (l : List UInt8) : Lib.hasPrefix l [c] = (match l with | [] => false | x :: _ => x == c) := by
  cases l with
  | nil => rfl
  | cons x r =>
    unfold Lib.hasPrefix
    rw [List.isPrefixOf_cons_cons]
    simp [Bool.beq_comm]
theorem close_to [Stable Φ] (e : UInt8) (c : Ctx W w (rd b st :: S ++ G) Φ) {K : List Own → PW → Prop} (hk : K (rd b (stepC e st) :: S) Φ) :
    Calls Tryz.prog F.wire_Reader_close #[.pointer (some ⟨b, 0, none⟩), .string (ByteArray.mk #[e])] w fun e w' => e = .returned (.tuple #[]) ∧ ∃ R' Φ', Stable Φ' ∧ Ctx W w' (R' ++ G) Φ' ∧ K R' Φ' := by
  refine (Bwire_Reader_close_run b 0 (ByteArray.mk #[e]) (J := fun u w' => (Ending.returned u) = .returned (.tuple #[]) ∧ ∃ R' Φ', Stable Φ' ∧ Ctx W w' (R' ++ G) Φ' ∧ K R' Φ') (R := rd b st :: (S ++ G)) c ?_).mono fun e w' ⟨v, he, hj⟩ => by rw [he]; exact hj
  clear c
  obtain ⟨l, bad⟩ := st
  refine fun w F1 cx => ⟨bs l, cx.get 0 rfl rfl, fun w F1 cx => ?_⟩
  refine (Any.strings_CutPrefix Tryz.lays103 (bs l) (ByteArray.mk #[e]) w).mono fun e2 w' ⟨he, hw⟩ => ?_
  subst hw
  refine ⟨_, _, he, rd b (l, bad) :: (S ++ G), Φ, inferInstance, cx, ?_⟩
  clear cx
  rw [bs_list, show (ByteArray.mk #[e]).data.toList = [e] from rfl]
  unfold Lib.trimPrefix
  rw [prefix_one]
  unfold stepC at hk
  cases l with
  | nil =>
    refine fun w F1 cx => ⟨cx.can 0 rfl (by simp), fun w' hw' => ⟨rd b ([], bad) :: (S ++ G), Φ, inferInstance, cx.put 0 hw' rfl, Br.intro (fun _ => fun w F1 cx => fail_to (S := S ++ G) cx fun w F1 cx => ⟨by first | trivial | rfl, _, Φ, inferInstance, cx.left, hk⟩) (fun h => by cases h)⟩⟩
  | cons x r =>
    simp only at hk ⊢
    by_cases hx : x = e
    · subst hx
      rw [if_pos rfl] at hk
      rw [if_pos (by simp)]
      refine fun w F1 cx => ⟨cx.can 0 rfl (by simp), fun w' hw' => ⟨rd b (r, bad) :: (S ++ G), Φ, inferInstance, cx.put 0 hw' rfl, Br.intro (fun h => by simp at h) (fun _ => fun w F1 cx => ⟨by first | trivial | rfl, _, Φ, inferInstance, cx.left, hk⟩)⟩⟩
    · rw [if_neg hx] at hk
      rw [if_neg (by simpa using hx)]
      refine fun w F1 cx => ⟨cx.can 0 rfl (by simp), fun w' hw' => ⟨rd b (x :: r, bad) :: (S ++ G), Φ, inferInstance, cx.put 0 hw' rfl, Br.intro (fun _ => fun w F1 cx => fail_to (S := S ++ G) cx fun w F1 cx => ⟨by first | trivial | rfl, _, Φ, inferInstance, cx.left, hk⟩) (fun h => by simp at h; exact absurd h hx)⟩⟩
theorem stepN_nonneg {e : UInt8} (he : e.toNat = 58 ∨ e.toNat = 59 ∨ e.toNat = 91) (st : RdS) : 0 ≤ (stepN e 0 st).1 ∧ (stepN e 0 st).1 ≤ 9223372036854775807 := by
  unfold stepN
  split
  · rename_i n r h
    obtain ⟨⟨h1, h2⟩, _⟩ := (numP_iff he).1 h
    unfold I64 at h1
    simp only; omega
  · simp only; omega
theorem stepN_len (e : UInt8) (least : Int) (st : RdS) : (stepN e least st).2.1.length ≤ st.1.length := by
  unfold stepN
  split
  · rename_i n r h
    unfold numP at h
    simp only at h
    split at h
    · cases h
    · split at h
      · split at h
        · cases h
          simp only [List.length_drop]; omega
        · cases h
      · cases h
  · simp
theorem Text_to [Stable Φ] (hΦ : ∀ M w, Φ M w → NumI M w) (hl : st.1.length ≤ 1000000000) (c : Ctx W w (rd b st :: S ++ G) Φ) {K : ByteArray → List Own → PW → Prop}
    (hk : K (stepT st).1 (rd b (stepT st).2 :: S) Φ) :
    Calls Tryz.prog F.wire_Reader_Text #[.pointer (some ⟨b, 0, none⟩)] w fun e w' => ∃ n, e = .returned (.string n) ∧ ∃ R' Φ', Stable Φ' ∧ Ctx W w' (R' ++ G) Φ' ∧ K n R' Φ' := by
  refine (Bwire_Reader_Text_run b 0 (J := fun u w' => ∃ n, (Ending.returned u) = .returned (.string n) ∧ ∃ R' Φ', Stable Φ' ∧ Ctx W w' (R' ++ G) Φ' ∧ K n R' Φ') (R := rd b st :: (S ++ G)) c ?_).mono fun e w' ⟨v, he, hj⟩ => by rw [he]; exact hj
  clear c
  refine fun w F1 cx => number_to (S := S ++ G) hΦ 58 0 hl cx ?_
  rw [show ((58 : Int).toNat.toUInt8) = (58 : UInt8) from rfl]
  unfold stepT at hk
  simp only at hk
  have hn := stepN_nonneg (e := 58) (.inl rfl) st
  obtain ⟨⟨n, l, bad⟩, ha⟩ : ∃ a, stepN 58 0 st = a := ⟨_, rfl⟩
  rw [ha] at hk hn ⊢
  simp only at hk hn ⊢
  refine fun w F1 cx => ⟨bs l, cx.get 0 rfl rfl, Br.intro (fun h => ?_) (fun h => ?_)⟩
  · have h := of_decide_eq_true h
    rw [bs_size] at h
    rw [if_pos h] at hk
    exact fun w F1 cx => fail_to (S := S ++ G) cx fun w F1 cx => ⟨_, rfl, _, Φ, inferInstance, cx.left, hk⟩
  · have h := of_decide_eq_false h
    rw [bs_size] at h
    rw [if_neg h] at hk
    have e1 : (bs l).extract n.toNat (bs l).size = bs (l.drop n.toNat) := by
      rw [bs_ext, bs_size]
      congr 1
      exact List.take_of_length_le (by rw [List.length_drop]; omega)
    have e2 : (bs l).extract 0 n.toNat = bs (l.take n.toNat) := by rw [bs_ext, List.drop_zero, Nat.sub_zero]
    refine fun w F1 cx => ⟨bs l, cx.get 0 rfl rfl, ⟨by omega, by rw [bs_size]; omega⟩, fun w F1 cx => ⟨bs l, cx.get 0 rfl rfl, ⟨by omega, by rw [bs_size]; omega, Nat.le_refl _⟩, fun w F1 cx => ⟨cx.can 0 rfl (by simp), fun w' hw' => ?_⟩⟩⟩
    rw [e1] at hw'
    refine ⟨rd b (l.drop n.toNat, bad) :: (S ++ G), Φ, inferInstance, cx.put 0 hw' rfl, fun w F1 cx => close_to (S := S ++ G) 44 cx fun w F1 cx => ⟨(stepC 44 (l.drop n.toNat, bad)).2, cx.get 0 rfl rfl, Br.intro (fun hb => ?_) (fun hb => ?_)⟩⟩
    · rw [hb] at hk
      exact fun w F1 cx => ⟨_, rfl, _, Φ, inferInstance, cx.left, hk⟩
    · rw [hb] at hk
      rw [e2]
      exact fun w F1 cx => ⟨_, rfl, _, Φ, inferInstance, cx.left, hk⟩
end
end Go.Proofs.YtemhapmbcbbljaaGreatDoor
end

section
namespace Go.Proofs.YtemhapmbcbbljaaGreatDoor
open Go.Vc
def stepV (st : RdS) : ValD × RdS := (⟨(rdInt st).1, (rdInt (rdInt st).2).1, (stepT (rdInt (rdInt st).2).2).1⟩, (stepT (rdInt (rdInt st).2).2).2)
def rowLoop : Nat → RdS → List ValD → Option (List ValD × RdS)
  | 0, st, acc => some (acc, st)
  | n + 1, st, acc => if st.1 = [] then none else rowLoop n (stepV st).2 (acc ++ [(stepV st).1])
def readRowP (l : List UInt8) : Option (List ValD) := match rowLoop (rdNat (l, false)).1.toNat (rdNat (l, false)).2 [] with
  | some (acc, st) => if rdDone st then some acc else none
  | none => none
theorem num_read {e : UInt8} (he : e.toNat = 58 ∨ e.toNat = 59 ∨ e.toNat = 91) {least n : Int} {r : List UInt8} {bad : Bool} (h : I64 n) (h2 : least ≤ n) : stepN e least (Lib.itoa n ++ e :: r, bad) = (n, (r, bad)) :=
  stepN_some (st := (Lib.itoa n ++ e :: r, bad)) ((numP_iff he).2 ⟨⟨h, h2⟩, rfl⟩)
theorem intB_list (n : Int) : (intB n).data.toList = Lib.itoa n ++ [59] := by
  unfold intB numB
  rw [ByteArray.data_append, Array.toList_append]
theorem int_read {n : Int} {r : List UInt8} {bad : Bool} (h : I64 n) : rdInt ((intB n).data.toList ++ r, bad) = (n, (r, bad)) := by
  rw [intB_list, List.append_assoc]
  exact num_read (.inr (.inl rfl)) h h.1
theorem nat_read {n : Nat} {r : List UInt8} {bad : Bool} (h : (n : Int) ≤ 9223372036854775807) : rdNat ((natB n).data.toList ++ r, bad) = ((n : Int), (r, bad)) := by
  unfold natB
  rw [if_neg (by omega), intB_list, List.append_assoc]
  exact num_read (.inr (.inl rfl)) (by unfold I64; omega) (by omega)
theorem textB_list (s : ByteArray) : (textB s).data.toList = Lib.itoa s.size ++ 58 :: (s.data.toList ++ [44]) := by
  unfold textB numB
  simp [ByteArray.data_append]
theorem text_read {s : ByteArray} {r : List UInt8} (h : s.size ≤ 9223372036854775807) : stepT ((textB s).data.toList ++ r, false) = (s, (r, false)) := by
  have e1 : stepN 58 0 ((textB s).data.toList ++ r, false) = ((s.size : Int), (s.data.toList ++ 44 :: r, false)) := by
    rw [textB_list, List.append_assoc, List.cons_append, List.append_assoc]
    exact num_read (.inl rfl) (by unfold I64; omega) (by omega)
  unfold stepT
  simp only [e1]
  have hl : s.data.toList.length = s.size := list_size s
  rw [if_neg (by rw [List.length_append, List.length_cons, hl]; omega), Int.toNat_natCast, List.drop_left' hl, List.take_left' hl]
  rfl
theorem val_read {v : ValD} {r : List UInt8} (h1 : I64 v.kind) (h2 : I64 v.num) (h3 : v.text.size ≤ 9223372036854775807) : stepV ((valB v).data.toList ++ r, false) = (v, (r, false)) := by
  have e : (valB v).data.toList ++ r = (intB v.kind).data.toList ++ ((intB v.num).data.toList ++ ((textB v.text).data.toList ++ r)) := by
    unfold valB
    simp [ByteArray.data_append]
  unfold stepV
  rw [e, int_read h1]
  simp only
  rw [int_read h2]
  simp only
  rw [text_read h3]
theorem valB_pos (v : ValD) (h : I64 v.kind) : (valB v).data.toList ≠ [] := fun e => by
  have h1 := intB_size h
  have h2 := congrArg List.length e
  rw [list_size] at h2
  unfold valB at h2
  rw [size_app, size_app, List.length_nil] at h2
  omega
def FitV (v : ValD) : Prop := (I64 v.kind ∧ I64 v.num) ∧ v.text.size ≤ 9223372036854775807
theorem vals_read : ∀ (r : List ValD) (acc : List ValD) (t : List UInt8), (∀ v ∈ r, FitV v) → rowLoop r.length (valsL r ++ t, false) acc = some (acc ++ r, (t, false))
  | [], acc, t, _ => by simp [rowLoop, valsL]
  | v :: r, acc, t, h => by
    obtain ⟨⟨h1, h2⟩, h3⟩ := h v (by simp)
    have e : valsL (v :: r) ++ t = (valB v).data.toList ++ (valsL r ++ t) := by simp [valsL]
    have hp := valB_pos v h1
    rw [e, List.length_cons, rowLoop, if_neg (by intro e; exact hp (List.append_eq_nil_iff.1 e).1), val_read h1 h2 h3]
    simp only
    rw [vals_read r _ t fun u hu => h u (by simp [hu]), List.append_assoc]
    rfl
theorem row_read {r : List ValD} (h : ∀ v ∈ r, FitV v) (hl : r.length ≤ 9223372036854775807) : readRowP (rowL r) = some r := by
  have h1 := vals_read r [] [] h
  rw [List.append_nil, List.nil_append] at h1
  unfold readRowP rowL
  rw [nat_read (by omega)]
  simp only [Int.toNat_natCast]
  rw [h1]
  rfl
theorem stepC_len (c : UInt8) (st : RdS) : (stepC c st).1.length ≤ st.1.length := by
  unfold stepC
  split
  · simp
  · rename_i h
    split
    · rw [h]; simp
    · simp
theorem stepT_len (st : RdS) : (stepT st).2.1.length ≤ st.1.length ∧ (stepT st).1.size ≤ st.1.length := by
  have h1 := stepN_len 58 0 st
  have h2 := stepC_len 44 (((stepN 58 0 st).2.1.drop (stepN 58 0 st).1.toNat, (stepN 58 0 st).2.2))
  rw [List.length_drop] at h2
  unfold stepT
  simp only
  split
  · exact ⟨Nat.zero_le _, Nat.zero_le _⟩
  · refine ⟨by simp only; omega, ?_⟩
    simp only
    split
    · exact Nat.zero_le _
    · rw [bs_size, List.length_take]; omega
theorem stepN_eats (e : UInt8) (least : Int) (st : RdS) (h : st.1 ≠ []) : (stepN e least st).2.1.length < st.1.length := by
  have hp := List.length_pos_iff.2 h
  unfold stepN
  split
  · rename_i n r h
    unfold numP at h
    simp only at h
    split at h
    · cases h
    · split at h
      · split at h
        · cases h
          simp only [List.length_drop]; omega
        · cases h
      · cases h
  · simpa using hp
theorem stepV_len (st : RdS) : (stepV st).2.1.length ≤ st.1.length ∧ (st.1 ≠ [] → (stepV st).2.1.length < st.1.length) ∧ (stepV st).1.text.size ≤ st.1.length := by
  have a := stepN_len 59 (-9223372036854775808) st
  have b := stepN_len 59 (-9223372036854775808) (rdInt st).2
  have c := stepT_len (rdInt (rdInt st).2).2
  have a' : (rdInt st).2.1.length ≤ st.1.length := a
  have b' : (rdInt (rdInt st).2).2.1.length ≤ (rdInt st).2.1.length := b
  unfold stepV
  refine ⟨by simp only; omega, fun h => ?_, by simp only; omega⟩
  have d : (rdInt st).2.1.length < st.1.length := stepN_eats 59 (-9223372036854775808) st h
  simp only; omega
theorem rdInt_i64 (st : RdS) : I64 (rdInt st).1 := by
  unfold rdInt stepN
  split
  · rename_i n r h
    exact ((numP_iff (.inr (.inl rfl))).1 h).1.1
  · unfold I64; simp
theorem rowLoop_fit {L : Nat} : ∀ (n : Nat) (st : RdS) (acc : List ValD) (out : List ValD) (st' : RdS), rowLoop n st acc = some (out, st') → acc.length + st.1.length ≤ L → (∀ v ∈ acc, v.text.size ≤ L) → out.length + st'.1.length ≤ L ∧ ∀ v ∈ out, v.text.size ≤ L
  | 0, st, acc, out, st', h, h1, h2 => by
    unfold rowLoop at h
    cases h
    exact ⟨h1, h2⟩
  | n + 1, st, acc, out, st', h, h1, h2 => by
    unfold rowLoop at h
    split at h
    · cases h
    · rename_i hne
      obtain ⟨a, b, c⟩ := stepV_len st
      have b := b hne
      refine rowLoop_fit n _ _ out st' h (by rw [List.length_append, List.length_singleton]; omega) fun v hv => ?_
      rcases List.mem_append.1 hv with hv | hv
      · exact h2 v hv
      · rw [List.mem_singleton.1 hv]; omega
theorem readRow_fit {l : List UInt8} {r : List ValD} (h : readRowP l = some r) : r.length ≤ l.length ∧ ∀ v ∈ r, v.text.size ≤ l.length := by
  unfold readRowP at h
  split at h
  · rename_i acc st hl
    split at h
    · cases h
      have hn : (rdNat (l, false)).2.1.length ≤ l.length := stepN_len 59 0 (l, false)
      have := rowLoop_fit (L := l.length) _ _ _ _ _ hl (by simp only [List.length_nil]; omega) (by simp)
      exact ⟨by omega, this.2⟩
    · cases h
  · cases h
section
variable {W w : World} {R G S : List Own} {Φ : PW} {b : Nat} {st : RdS}
theorem take_to [Stable Φ] (hΦ : ∀ M w, Φ M w → NumI M w) (hl : st.1.length ≤ 1000000000) (c : Ctx W w (rd b st :: S ++ G) Φ) {K : Int → Int → ByteArray → List Own → PW → Prop}
    (hk : K (stepV st).1.kind (stepV st).1.num (stepV st).1.text (rd b (stepV st).2 :: S) Φ) :
    Calls Tryz.prog F.value_take #[.pointer (some ⟨b, 0, none⟩)] w fun e w' => ∃ n m s, e = .returned (.agg #[.int .i64 n, .int .i64 m, .string s]) ∧ ∃ R' Φ', Stable Φ' ∧ Ctx W w' (R' ++ G) Φ' ∧ K n m s R' Φ' := by
  refine (Bvalue_take_run b 0 (J := fun u w' => ∃ n m s, (Ending.returned u) = .returned (.agg #[.int .i64 n, .int .i64 m, .string s]) ∧ ∃ R' Φ', Stable Φ' ∧ Ctx W w' (R' ++ G) Φ' ∧ K n m s R' Φ') (R := rd b st :: (S ++ G)) c ?_).mono fun e w' ⟨v, he, hj⟩ => by rw [he]; exact hj
  have a : (rdInt st).2.1.length ≤ st.1.length := stepN_len 59 (-9223372036854775808) st
  have b : (rdInt (rdInt st).2).2.1.length ≤ (rdInt st).2.1.length := stepN_len 59 (-9223372036854775808) (rdInt st).2
  exact fun _ w F1 cx => RInt_to (S := S ++ G) hΦ hl cx fun w F1 cx => RInt_to (S := S ++ G) hΦ (by omega) cx fun _ w F1 cx => Text_to (S := S ++ G) hΦ (by omega) cx fun w F1 cx => ⟨_, _, _, rfl, _, Φ, inferInstance, cx.left, hk⟩
theorem rep_of {M : List Nat} {w : World} {v : ValD} (h1 : I64 v.kind) (h2 : I64 v.num) (h3 : v.text.size ≤ maxLen) : Gv.rep M w [.int .i64 v.kind, .int .i64 v.num, .string v.text] v :=
  ⟨[.int .i64 v.kind], [.int .i64 v.num, .string v.text], rfl, ⟨rfl, h1⟩, [.int .i64 v.num], [.string v.text], rfl, ⟨rfl, h2⟩, rfl, h3⟩
set_option maxHeartbeats 1000000 in
theorem ReadRow_use [Stable Φ] (hΦ : ∀ M w, Φ M w → NumI M w) (l : List UInt8) (hl : l.length ≤ 10000000) (c : Ctx W w S Φ) {K : Ending → World → Prop}
    (h0 : readRowP l = none → ∀ w', Ctx W w' S Φ → K (.returned (.tuple #[.slice none 0 0, .bool false])) w')
    (h1 : ∀ r p cap w', readRowP l = some r → r.length ≤ cap → cap ≤ maxLen → Ctx W w' S (fun M w => Φ M w ∧ Sl M w p r) → K (.returned (.tuple #[.slice p r.length cap, .bool true])) w') :
    Calls Tryz.prog F.value_ReadRow #[.string (bs l)] w K := by
  refine (Bvalue_ReadRow_run (bs l) (J := fun u w' => K (.returned u) w') (R := S) c ?_).mono fun e w' ⟨v, he, hj⟩ => by rw [he]; exact hj
  clear c
  refine fun w G cx => Open_use l cx fun b w cx => ⟨_, rfl, rd b (l, false) :: S, Φ, inferInstance, cx, ?_⟩
  clear cx
  refine fun w G cx => RNum_to (S := S) hΦ (by simp only; omega) cx ?_
  clear cx
  have hlen : (rdNat (l, false)).2.1.length ≤ l.length := stepN_len 59 0 (l, false)
  have hnn := stepN_nonneg (e := 59) (.inr (.inl rfl)) (l, false)
  have hrow : readRowP l = match rowLoop (rdNat (l, false)).1.toNat (rdNat (l, false)).2 [] with
    | some (acc, st) => if rdDone st then some acc else none
    | none => none := rfl
  have hnn : 0 ≤ (rdNat (l, false)).1 ∧ (rdNat (l, false)).1 ≤ 9223372036854775807 := hnn
  obtain ⟨⟨n0, st0⟩, hst⟩ : ∃ x, rdNat (l, false) = x := ⟨_, rfl⟩
  rw [hst] at hlen hnn hrow ⊢
  simp only at hlen hnn hrow ⊢
  refine exI_mk (fun p n c m R' Φ' k => ∃ (st : RdS) (acc : List ValD) (ds : List Value), n = acc.length ∧ R' = .buf p n c ds 78 3 :: rd b st :: S ∧ Φ' = (fun M w => Φ M w ∧ Elems M w ds acc) ∧ k = m.toNat ∧ 0 ≤ m ∧ m ≤ 9223372036854775807 ∧ acc.length + st.1.length ≤ l.length ∧ rowLoop n0.toNat st0 [] = rowLoop m.toNat st acc)
    ⟨⟨.buf none 0 0 [] 78 3 :: rd b st0 :: S, fun M w => Φ M w ∧ Elems M w [] ([] : List ValD), _, inferInstance, fun w G cx => (cx.nobuf 78 3).weak fun M w h => ⟨h, Elems.nil⟩, st0, [], [], rfl, rfl, rfl, rfl, hnn.1, hnn.2, by simp only [List.length_nil]; omega, rfl⟩, ?_⟩
  rintro p n c m R1 Φ1 k _ ⟨st, acc, ds, rfl, rfl, rfl, rfl, hm0, hm1, hal, hrl⟩
  have hst1 : Stable (fun M w => Φ M w ∧ Elems M w ds acc) := inferInstance
  refine Br.intro (fun hpos => ?_) (fun hz => ?_)
  · have hpos := of_decide_eq_true hpos
    refine fun w G cx => Left_to (S := .buf p acc.length c ds 78 3 :: S) cx.swap ?_
    refine Br.intro (fun hz => fun w G cx => ?_) (fun hnz => ?_)
    · have hz := of_decide_eq_true hz
      refine h0 ?_ w (cx.left.drop1.drop1.weak fun M w h => h.1)
      rw [hrow, hrl, show m.toNat = (m.toNat - 1) + 1 by omega, rowLoop, if_pos (List.length_eq_zero_iff.1 (by omega))]
    · have hnz := of_decide_eq_false hnz
      have hne : st.1 ≠ [] := fun e => hnz (by rw [e]; rfl)
      obtain ⟨q1, q2, q3⟩ := stepV_len st
      have q2 := q2 hne
      have hi1 := rdInt_i64 st
      have hi2 := rdInt_i64 (rdInt st).2
      refine fun w G cx => take_to (S := .buf p acc.length c ds 78 3 :: S) (fun M w h => hΦ M w h.1) (by omega) cx ?_
      refine fun bk w G cx => ?_
      have cx1 : Ctx W w (.blk bk [.int .i64 (stepV st).1.kind, .int .i64 (stepV st).1.num, .string (stepV st).1.text] 78 :: .buf p acc.length c ds 78 3 :: (rd b (stepV st).2 :: S ++ G)) (fun M w => Φ M w ∧ Elems M w ds acc) := cx.perm ((List.Perm.swap _ _ _).cons _)
      obtain ⟨p', cap', w', hrun, _, cx'⟩ := Ctx.app1 (P := Tryz.prog) (ts := 49) (ty := 49) (kb := #[false, false]) (size := 3) (bytes := 32) cx1 (by kernel_rfl) (by omega) rfl rfl (by omega) (by omega)
      have hst2 : Stable (fun M w => Φ M w ∧ Elems M w (ds ++ [.int .i64 (stepV st).1.kind, .int .i64 (stepV st).1.num, .string (stepV st).1.text]) (acc ++ [(stepV st).1])) := inferInstance
      have hcx2 : Ctx W w' (.buf p' (acc ++ [(stepV st).1]).length cap' (ds ++ [.int .i64 (stepV st).1.kind, .int .i64 (stepV st).1.num, .string (stepV st).1.text]) 78 3 :: rd b (stepV st).2 :: S ++ G) (fun M w => Φ M w ∧ Elems M w (ds ++ [.int .i64 (stepV st).1.kind, .int .i64 (stepV st).1.num, .string (stepV st).1.text]) (acc ++ [(stepV st).1])) := by
        rw [List.length_append, List.length_singleton]
        exact cx'.weak fun M w h => ⟨h.1, h.2.snoc (rep_of hi1 hi2 (Nat.le_trans q3 (Nat.le_trans (by omega : st.1.length ≤ 10000000) (by decide))))⟩
      refine ⟨p', acc.length + 1, cap', w', hrun, _, _, hst2, hcx2, by unfold I64; omega, _, _, (m - 1).toNat, hst2, fun w G cx => cx, ⟨(stepV st).2, acc ++ [(stepV st).1], _, by simp, by simp, rfl, rfl, by omega, by omega, by rw [List.length_append, List.length_singleton]; omega, ?_⟩, by omega⟩
      rw [hrl, show m.toNat = (m - 1).toNat + 1 by omega, rowLoop, if_neg hne]
  · have hz := of_decide_eq_false hz
    have hm : m.toNat = 0 := by omega
    rw [hm, rowLoop] at hrl
    rw [hrl] at hrow
    simp only at hrow
    refine fun w G cx => Done_to (S := .buf p acc.length c ds 78 3 :: S) cx.swap ?_
    refine Br.intro (fun hd => fun w G cx => ?_) (fun hd => fun w G cx => ?_)
    · refine h0 ?_ w (cx.left.drop1.drop1.weak fun M w h => h.1)
      rw [hrow, if_neg (by simpa using hd)]
    · have cx := cx.left.drop1
      obtain ⟨cx3, hs, _, g1, g2⟩ := Ctx.freeze (α := ValD) cx.fst cx.phi.2
      exact h1 acc p c w (by rw [hrow, if_pos (by simpa using hd)]) g1 g2 (cx3.add hs)
theorem ReadRow_to [Stable Φ] (hΦ : ∀ M w, Φ M w → NumI M w) (l : List UInt8) (hl : l.length ≤ 10000000) (c : Ctx W w (R ++ G) Φ) {K : Option Addr → Nat → Nat → Bool → List Own → PW → Prop}
    (h0 : readRowP l = none → K none 0 0 false R Φ)
    (h1 : ∀ r p cap, readRowP l = some r → r.length ≤ cap → cap ≤ maxLen → Stable (fun M w => Φ M w ∧ Sl M w p r) → K p r.length cap true R (fun M w => Φ M w ∧ Sl M w p r)) :
    Calls Tryz.prog F.value_ReadRow #[.string (bs l)] w fun e w' => ∃ p n c ok, e = .returned (.tuple #[.slice p n c, .bool ok]) ∧ ∃ R' Φ', Stable Φ' ∧ Ctx W w' (R' ++ G) Φ' ∧ K p n c ok R' Φ' :=
  ReadRow_use hΦ l hl c (fun h w' c => ⟨none, 0, 0, false, rfl, R, Φ, inferInstance, c, h0 h⟩) fun r p cap w' h g1 g2 c => ⟨p, r.length, cap, true, rfl, R, _, inferInstance, c, h1 r p cap h g1 g2 inferInstance⟩
theorem ReadRowS_to [Stable Φ] (hΦ : ∀ M w, Φ M w → NumI M w) (s : ByteArray) (hl : s.size ≤ 10000000) (c : Ctx W w (R ++ G) Φ) {K : Option Addr → Nat → Nat → Bool → List Own → PW → Prop}
    (h0 : readRowP s.data.toList = none → K none 0 0 false R Φ)
    (h1 : ∀ r p cap, readRowP s.data.toList = some r → r.length ≤ cap → cap ≤ maxLen → Stable (fun M w => Φ M w ∧ Sl M w p r) → K p r.length cap true R (fun M w => Φ M w ∧ Sl M w p r)) :
    Calls Tryz.prog F.value_ReadRow #[.string s] w fun e w' => ∃ p n c ok, e = .returned (.tuple #[.slice p n c, .bool ok]) ∧ ∃ R' Φ', Stable Φ' ∧ Ctx W w' (R' ++ G) Φ' ∧ K p n c ok R' Φ' :=
  ReadRow_to hΦ s.data.toList (by rw [list_size]; exact hl) c h0 h1
end
end Go.Proofs.YtemhapmbcbbljaaGreatDoor
end

section
namespace Go.Proofs.YtemhapmbcbbljaaGreatDoor
open Go.Vc
def itemsK : Nat → RdS → List Int → List Int × RdS
  | 0, st, acc => (acc, st)
  | k + 1, st, acc => if st.2 = true then (acc, st) else itemsK k (rdInt st).2 (acc ++ [(rdInt st).1])
theorem itemsK_e {k : Nat} {st : RdS} {acc : List Int} (h : st.2 = true) : itemsK k st acc = (acc, st) := by
  cases k with
  | zero => rfl
  | succ k => unfold itemsK; rw [if_pos h]
theorem itemsK_s {k : Nat} {st : RdS} {acc : List Int} (h : st.2 = false) : itemsK (k + 1) st acc = itemsK k (rdInt st).2 (acc ++ [(rdInt st).1]) := by
  rw [itemsK.eq_2, if_neg (by rw [h]; simp)]
def numsK (st : RdS) : List Int × RdS :=
  let a := stepN 91 0 st
  let b := itemsK a.1.toNat a.2 []
  let c := stepC 93 b.2
  (if c.2 then [] else b.1, c)
theorem items_read : ∀ (l acc : List Int) (t : List UInt8), (∀ x ∈ l, I64 x) → itemsK l.length (intsL l ++ t, false) acc = (acc ++ l, (t, false))
  | [], acc, t, _ => by rw [List.append_nil]; rfl
  | x :: l, acc, t, h => by
    have e : intsL (x :: l) ++ t = (intB x).data.toList ++ (intsL l ++ t) := by simp [intsL]
    rw [e, List.length_cons, itemsK_s rfl, int_read (h x (by simp))]
    simp only
    rw [items_read l _ t fun y hy => h y (by simp [hy]), List.append_assoc]
    rfl
theorem nums_read {l : List Int} {t : List UInt8} (h : ∀ x ∈ l, I64 x) (hl : (l.length : Int) ≤ 9223372036854775807) : numsK (numsL l ++ t, false) = (l, (t, false)) := by
  have e : numsL l ++ t = Lib.itoa (l.length : Int) ++ 91 :: (intsL l ++ (93 :: t)) := by
    unfold numsL numB
    simp
  unfold numsK
  rw [e, num_read (.inr (.inr rfl)) (by unfold I64; omega) (by omega)]
  simp only [Int.toNat_natCast]
  rw [items_read l [] _ h, List.nil_append]
  simp only [stepC]
  rfl
def rdL (st : RdS) (nx no : Int) (r : List ValD) : LineD × RdS :=
  (⟨nx, no, (rdInt st).1, r, (rdInt (stepT (rdInt st).2).2).1, (rdInt (rdInt (stepT (rdInt st).2).2).2).1, (rdInt (rdInt (rdInt (stepT (rdInt st).2).2).2).2).1⟩, (rdInt (rdInt (rdInt (stepT (rdInt st).2).2).2).2).2)
def lineR (nx no : Int) (st : RdS) : Option (LineD × RdS) := (readRowP (stepT (rdInt st).2).1.data.toList).map (rdL st nx no)
theorem lineR_none {nx no : Int} {st : RdS} (h : readRowP (stepT (rdInt st).2).1.data.toList = none) : lineR nx no st = none := by unfold lineR; rw [h]; rfl
theorem lineR_some {nx no : Int} {st : RdS} {r : List ValD} (h : readRowP (stepT (rdInt st).2).1.data.toList = some r) : lineR nx no st = some (rdL st nx no r) := by unfold lineR; rw [h]; rfl
theorem lineR_inv {nx no : Int} {st st' : RdS} {x : LineD} (h : lineR nx no st = some (x, st')) : ∃ r, readRowP (stepT (rdInt st).2).1.data.toList = some r ∧ rdL st nx no r = (x, st') := by
  unfold lineR at h
  exact Option.map_eq_some_iff.1 h
attribute [irreducible] lineR
theorem lineS_list (x : LineD) (t : List UInt8) : (lineS x).data.toList ++ t = (intB x.batch).data.toList ++ ((intB x.time).data.toList ++ ((textB (rowB x.row)).data.toList ++ ((intB x.n).data.toList ++ ((intB x.cause).data.toList ++ ((intB x.why).data.toList ++ t))))) := by
  unfold lineS
  simp [ByteArray.data_append]
theorem line_fit {x : LineD} (h : LineW x) : (∀ v ∈ x.row, FitV v) ∧ x.row.length ≤ 9223372036854775807 ∧ (rowB x.row).size ≤ 9223372036854775807 := by
  have h1 := rowB_small h.row h.val
  have h2 := h.row
  exact ⟨fun v hv => ⟨(h.val v hv).1, by have := (h.val v hv).2; omega⟩, by omega, by omega⟩
def lineK (nx : Int) (st : RdS) : Option (LineD × RdS) := lineR nx (rdInt st).1 (rdInt st).2
theorem line_read {x : LineD} {n : Int} {t : List UInt8} (h : LineW x) : lineK n ((lineS x).data.toList ++ t, false) = some ({ x with no := n }, (t, false)) := by
  obtain ⟨h3, h4, h5⟩ := line_fit h
  unfold lineK
  rw [lineS_list, int_read h.inn.batch]
  simp only
  have e1 : rdInt ((intB x.time).data.toList ++ ((textB (rowB x.row)).data.toList ++ ((intB x.n).data.toList ++ ((intB x.cause).data.toList ++ ((intB x.why).data.toList ++ t)))), false) = (x.time, ((textB (rowB x.row)).data.toList ++ ((intB x.n).data.toList ++ ((intB x.cause).data.toList ++ ((intB x.why).data.toList ++ t))), false)) := int_read h.inn.time
  have e2 := text_read (r := (intB x.n).data.toList ++ ((intB x.cause).data.toList ++ ((intB x.why).data.toList ++ t))) h5
  have e3 : readRowP (stepT (rdInt ((intB x.time).data.toList ++ ((textB (rowB x.row)).data.toList ++ ((intB x.n).data.toList ++ ((intB x.cause).data.toList ++ ((intB x.why).data.toList ++ t)))), false)).2).1.data.toList = some x.row := by
    rw [e1]
    show readRowP (stepT ((textB (rowB x.row)).data.toList ++ _, false)).1.data.toList = some x.row
    rw [e2]
    exact row_read h3 h4
  rw [lineR_some e3]
  unfold rdL
  rw [e1]
  simp only
  rw [e2]
  simp only
  rw [int_read h.inn.n]
  simp only
  rw [int_read h.inn.cause]
  simp only
  rw [int_read h.inn.why]
def linesK : Nat → RdS → List LineD → Option (List LineD × RdS)
  | 0, st, acc => some (acc, st)
  | k + 1, st, acc => (lineK ((acc.length : Int) + 1) st).bind fun y => linesK k y.2 (acc ++ [y.1])
theorem linesK_z (st : RdS) (acc : List LineD) : linesK 0 st acc = some (acc, st) := rfl
theorem linesK_n {k : Nat} {st : RdS} {acc : List LineD} (h : lineK ((acc.length : Int) + 1) st = none) : linesK (k + 1) st acc = none := by
  unfold linesK
  rw [h]; rfl
theorem linesK_s {k : Nat} {st st' : RdS} {acc : List LineD} {x : LineD} (h : lineK ((acc.length : Int) + 1) st = some (x, st')) : linesK (k + 1) st acc = linesK k st' (acc ++ [x]) := by
  rw [linesK.eq_2, h]; rfl
def renK : Int → List LineD → List LineD
  | _, [] => []
  | n, x :: l => { x with no := n } :: renK (n + 1) l
theorem ren_num : ∀ {n : Int} {l : List LineD}, numK n l = true → renK n l = l
  | _, [], _ => rfl
  | n, x :: l, h => by
    have h : (decide (x.no = n) && numK (n + 1) l) = true := h
    rw [Bool.and_eq_true] at h
    show { x with no := n } :: renK (n + 1) l = x :: l
    rw [ren_num h.2, ← of_decide_eq_true h.1]
theorem lines_readK : ∀ (c acc : List LineD) (t : List UInt8), (∀ x ∈ c, LineW x) → linesK c.length (linesL c ++ t, false) acc = some (acc ++ renK ((acc.length : Int) + 1) c, (t, false))
  | [], acc, t, h => by
    show some (acc, _) = some (acc ++ [], _)
    rw [List.append_nil]; rfl
  | x :: c, acc, t, h => by
    have e : linesL (x :: c) ++ t = (lineS x).data.toList ++ (linesL c ++ t) := by simp [linesL]
    rw [e, List.length_cons, linesK_s (line_read (h x (by simp))), lines_readK c _ t (fun y hy => h y (by simp [hy])), List.append_assoc, List.length_append, List.length_singleton]
    rfl
def readLinesK (st : RdS) : Option (List LineD × RdS) := linesK (rdNat st).1.toNat (rdNat st).2 []
theorem readLines_read {c : List LineD} {t : List UInt8} (h : ∀ x ∈ c, LineW x) (hl : (c.length : Int) ≤ 9223372036854775807) : readLinesK (linesS c ++ t, false) = some (renK 1 c, (t, false)) := by
  unfold readLinesK linesS
  rw [List.append_assoc, nat_read hl]
  simp only [Int.toNat_natCast]
  rw [lines_readK c [] t h]
  rfl
def shiftL (m : Int) (l : List LineD) : List LineD := l.map fun x => { x with no := x.no + m }
theorem shift_ren : ∀ (l : List LineD) (n m : Int), shiftL m (renK n l) = renK (n + m) l
  | [], _, _ => rfl
  | x :: l, n, m => by
    show { x with no := n + m } :: shiftL m (renK (n + 1) l) = { x with no := n + m } :: renK (n + m + 1) l
    rw [shift_ren l, show n + 1 + m = n + m + 1 by omega]
def headK (b : Int) (l : List LineD) : List LineD := l.takeWhile fun x => decide (x.batch = b)
def restK (b : Int) (l : List LineD) : List LineD := l.dropWhile fun x => decide (x.batch = b)
def batsK : List Int → List LineD → SkD → Option (SkD × List LineD)
  | [], l, s => some (s, l)
  | b :: bs, l, s => if lookK s b (headK b l) = 0 then batsK bs (restK b l) (takeK s b (headK b l)) else none
def finK (l : List UInt8) (s : SkD) (prep : Int) (aside : List LineD) : Option SkD :=
  let y := if prep = 0 then (0, s) else prepK s prep aside
  if y.1 = 0 ∧ y.2.prep = prep ∧ (skB y.2).data.toList = l then some y.2 else none
def readSk (l : List UInt8) : Option SkD :=
  if newOk (rdInt (l, false)).1 (numsK (rdInt (l, false)).2).1 = false then none else
    (readLinesK (numsK (numsK (rdInt (l, false)).2).2).2).bind fun d => (readLinesK (rdInt d.2).2).bind fun f => if rdDone f.2 = false then none else
      (batsK (numsK (numsK (rdInt (l, false)).2).2).1 d.1 (newK (rdInt (l, false)).1 (numsK (rdInt (l, false)).2).1)).bind fun g => finK l g.1 (rdInt d.2).1 (shiftL (g.1.lines.length : Int) f.1)
inductive MadeK (kind : Int) (key : List Int) : List Int → List LineD → Prop
  | nil : MadeK kind key [] []
  | take {bats : List Int} {lines L : List LineD} {b : Int} : MadeK kind key bats lines → lookK ⟨kind, key, bats, lines, 0, []⟩ b L = 0 → MadeK kind key (bats ++ [b]) (lines ++ L)
theorem look_same (s : SkD) (b : Int) (L : List LineD) : lookK ⟨s.kind, s.key, s.bats, s.lines, 0, []⟩ b L = lookK s b L := rfl
structure SkR (s : SkD) : Prop where
  ok : newOk s.kind s.key = true
  made : MadeK s.kind s.key s.bats s.lines
  prep : s.prep ≠ 0 → s.kind = 0 ∧ hasK s s.prep = false ∧ lookK s s.prep s.aside = 0
  none : s.prep = 0 → s.aside = []
theorem new_r {kind : Int} {key : List Int} (h : newOk kind key = true) : SkR (newK kind key) := ⟨h, .nil, fun h => absurd rfl h, fun _ => rfl⟩
theorem op_r {s : SkD} (h : SkR s) (k b : Int) (L : List LineD) : SkR (opK k s b L).2 := by
  have hP : SkR (prepK s b L).2 := by
    rcases prep_cases s b L with ⟨e, _⟩ | ⟨h0, h1, h2, e⟩
    · rw [e]; exact h
    · rw [e]
      have h3 := (look_ok h2).1
      exact ⟨h.ok, h.made, fun _ => ⟨h0, h1, Decidable.not_not.1 h2⟩, fun e => by have : b = 0 := e; omega⟩
  unfold opK
  split
  · exact hP
  split
  · exact hP
  split
  · rcases comm_cases s b with ⟨e, _⟩ | ⟨h0, h1, h2, h3, e⟩
    · rw [e]; exact h
    · rw [e]
      have hp := (h.prep (by omega)).2.2
      rw [← h3] at hp
      exact ⟨h.ok, .take h.made ((look_same s b s.aside).trans hp), fun e => absurd rfl e, fun _ => rfl⟩
  split
  · rcases abort_cases s b with ⟨e, _⟩ | ⟨h0, _, _, e⟩
    · rw [e]; exact h
    · rw [e]; exact ⟨h.ok, h.made, fun e => absurd rfl e, fun _ => rfl⟩
  split
  · exact h
  split
  · exact h
  · rcases deliv_cases s b L with ⟨e, _⟩ | ⟨h0, h1, h2, e⟩
    · rw [e]; exact h
    · rw [e]
      exact ⟨h.ok, .take h.made ((look_same s b L).trans (Decidable.not_not.1 h2)), fun e => absurd (h.prep e).1 h0, h.none⟩
theorem num_app : ∀ {n : Int} {a b : List LineD}, numK n a = true → numK (n + a.length) b = true → numK n (a ++ b) = true
  | n, [], b, _, h => by rw [List.length_nil] at h; simpa using h
  | n, x :: a, b, h1, h2 => by
    have h1 : (decide (x.no = n) && numK (n + 1) a) = true := h1
    rw [Bool.and_eq_true] at h1
    show (decide (x.no = n) && numK (n + 1) (a ++ b)) = true
    rw [h1.1, Bool.true_and]
    refine num_app h1.2 ?_
    rw [List.length_cons] at h2
    rw [show n + 1 + (a.length : Int) = n + ((a.length + 1 : Nat) : Int) by omega]
    exact h2
theorem made_num {kind : Int} {key : List Int} {bats : List Int} {lines : List LineD} (h : MadeK kind key bats lines) : numK 1 lines = true := by
  induction h with
  | nil => rfl
  | take h hz ih =>
    have := (look_ok (by rw [hz]; simp)).2.2.2
    refine num_app ih ?_
    rw [Int.add_comm]
    exact this
theorem made_bats {kind : Int} {key : List Int} {bats : List Int} {lines : List LineD} (h : MadeK kind key bats lines) : ∀ (bs : List Int) (l : List LineD), (∀ x ∈ l.head?, lastK ⟨kind, key, bats, lines, 0, []⟩ < x.batch) → batsK (bats ++ bs) (lines ++ l) (newK kind key) = batsK bs l ⟨kind, key, bats, lines, 0, []⟩ := by
  induction h with
  | nil => intro bs l _; rfl
  | @take bats lines L b h hz ih =>
    intro bs l hl
    obtain ⟨h1, h2, h3, h4⟩ := look_ok (s := ⟨kind, key, bats, lines, 0, []⟩) (by rw [hz]; simp)
    have hlast : lastK ⟨kind, key, bats ++ [b], lines ++ L, 0, []⟩ = b := last_take ⟨kind, key, bats, lines, 0, []⟩ b L
    rw [hlast] at hl
    have hb : ∀ x ∈ L, x.batch = b := fun x hx => (bad_right (h3 x hx)).1
    rw [List.append_assoc, List.append_assoc, ih ([b] ++ bs) (L ++ l) ?_]
    · show (if lookK _ b (headK b (L ++ l)) = 0 then _ else none) = _
      have e1 : headK b (L ++ l) = L := by
        unfold headK
        rw [List.takeWhile_append_of_pos fun x hx => decide_eq_true (hb x hx)]
        cases l with
        | nil => simp
        | cons y l =>
          have := hl y (by simp)
          rw [List.takeWhile_cons_of_neg (by simp; omega), List.append_nil]
      have e2 : restK b (L ++ l) = l := by
        unfold restK
        rw [List.dropWhile_append_of_pos fun x hx => decide_eq_true (hb x hx)]
        cases l with
        | nil => simp
        | cons y l =>
          have := hl y (by simp)
          rw [List.dropWhile_cons_of_neg (by simp; omega)]
      rw [e1, e2, if_pos hz]
      rfl
    · intro x hx
      cases L with
      | nil =>
        have := hl x (by simpa using hx)
        omega
      | cons y L =>
        have hx : y = x := by simpa using hx
        subst hx
        rw [hb y (by simp)]
        exact h2
theorem read_bytes {s : SkD} (h : SkR s) (hW : SkW s) (h1 : (s.key.length : Int) ≤ 9223372036854775807) (h2 : (s.bats.length : Int) ≤ 9223372036854775807) (h3 : (s.lines.length : Int) ≤ 9223372036854775807) (h4 : (s.aside.length : Int) ≤ 9223372036854775807) : readSk (skB s).data.toList = some s := by
  have e : (skB s).data.toList = (intB s.kind).data.toList ++ (numsL s.key ++ (numsL s.bats ++ (linesS s.lines ++ ((intB s.prep).data.toList ++ (linesS s.aside ++ []))))) := by
    unfold skB
    simp [ByteArray.data_append]
  have hfin : finK (skB s).data.toList ⟨s.kind, s.key, s.bats, s.lines, 0, []⟩ s.prep (shiftL (s.lines.length : Int) (renK 1 s.aside)) = some s := by
    have hy : (if s.prep = 0 then ((0 : Int), (⟨s.kind, s.key, s.bats, s.lines, 0, []⟩ : SkD)) else prepK ⟨s.kind, s.key, s.bats, s.lines, 0, []⟩ s.prep (shiftL (s.lines.length : Int) (renK 1 s.aside))) = (0, s) := by
      split
      · rename_i hp
        have ha := h.none hp
        cases s
        simp only at hp ha
        rw [hp, ha]
      · rename_i hp
        obtain ⟨g1, g2, g3⟩ := h.prep hp
        have ha : shiftL (s.lines.length : Int) (renK 1 s.aside) = s.aside := by
          rw [shift_ren, Int.add_comm]
          exact ren_num (look_ok (by rw [g3]; simp)).2.2.2
        rw [ha]
        unfold prepK
        rw [if_neg (by simp only; omega), if_neg (by rw [show hasK ⟨s.kind, s.key, s.bats, s.lines, 0, []⟩ s.prep = hasK s s.prep from rfl, g2]; simp), if_neg (by rw [look_same, g3]; simp)]
    unfold finK
    simp only
    rw [hy, if_pos ⟨rfl, rfl, rfl⟩]
  generalize (skB s).data.toList = bytes at e hfin ⊢
  unfold readSk
  rw [e, int_read hW.kind]
  simp only
  rw [nums_read hW.key h1]
  simp only
  rw [nums_read hW.bats h2]
  simp only
  rw [readLines_read hW.lines h3]
  simp only [Option.bind_some]
  rw [int_read hW.prep]
  simp only
  rw [readLines_read hW.aside h4]
  simp only [Option.bind_some]
  rw [if_neg (by rw [h.ok]; simp), if_neg (by decide), ren_num (made_num h.made)]
  have hb := made_bats h.made [] [] (by simp)
  rw [List.append_nil, List.append_nil] at hb
  rw [hb]
  show finK _ _ _ _ = _
  rw [← e]
  exact hfin
theorem rdInt_len (st : RdS) : (rdInt st).2.1.length ≤ st.1.length := stepN_len 59 (-9223372036854775808) st
theorem rdInt_eats (st : RdS) : (rdInt st).2 = ([], true) ∧ (rdInt st).1 = 0 ∨ (rdInt st).2.1.length + 2 ≤ st.1.length ∧ (rdInt st).2.2 = st.2 := by
  unfold rdInt stepN
  split
  · rename_i n r h
    obtain ⟨⟨h1, _⟩, h2⟩ := (numP_iff (.inr (.inl rfl))).1 h
    have := itoa_len h1
    right
    rw [h2, List.length_append, List.length_cons]
    simp only
    exact ⟨by omega, trivial⟩
  · exact .inl ⟨rfl, rfl⟩
theorem stepT_eats (st : RdS) : (stepT st).1.data.toList = [] ∨ (stepT st).2.1.length + 3 + (stepT st).1.size ≤ st.1.length := by
  unfold stepT
  simp only
  split
  · exact .inl rfl
  · rename_i h
    by_cases hc : (stepC 44 ((stepN 58 0 st).2.1.drop (stepN 58 0 st).1.toNat, (stepN 58 0 st).2.2)).2 = true
    · left
      rw [if_pos hc]
    · right
      simp only
      rw [if_neg hc, bs_size, List.length_take]
      unfold stepN at hc ⊢
      split at hc
      · rename_i n r hn
        obtain ⟨⟨h1, _⟩, h2⟩ := (numP_iff (.inl rfl)).1 hn
        have := itoa_len h1
        simp only at hc ⊢
        unfold stepC at hc ⊢
        simp only at hc ⊢
        split at hc
        · exact absurd rfl hc
        · rename_i x r2 hx
          have hlen := congrArg List.length hx
          rw [List.length_drop, List.length_cons] at hlen
          split at hc
          · rename_i hxe
            rw [if_pos hxe, h2, List.length_append, List.length_cons]
            simp only; omega
          · exact absurd rfl hc
      · exfalso
        apply hc
        rfl
theorem readRow_pos {l : List UInt8} {r : List ValD} (h : readRowP l = some r) : 2 ≤ l.length := by
  unfold readRowP at h
  rcases Nat.lt_or_ge l.length 2 with h1 | h1
  · exfalso
    have e : rdNat (l, false) = (0, ([], true)) := by
      refine stepN_none ?_
      rcases hn : numP 59 0 l with _ | ⟨n, r2⟩
      · rfl
      · obtain ⟨⟨g1, _⟩, g2⟩ := (numP_iff (.inr (.inl rfl))).1 hn
        have := itoa_len g1
        rw [g2, List.length_append, List.length_cons] at h1
        omega
    rw [e] at h
    cases h
  · exact h1
theorem line_eats {nx no : Int} {st st' : RdS} {x : LineD} (h : lineR nx no st = some (x, st')) : st'.1.length + 7 ≤ st.1.length ∧ x.row.length ≤ st.1.length ∧ (∀ v ∈ x.row, v.text.size ≤ st.1.length) ∧ I64 x.time ∧ I64 x.n ∧ I64 x.cause ∧ I64 x.why ∧ x.no = nx ∧ x.batch = no := by
  obtain ⟨r, hr, he⟩ := lineR_inv h
  obtain ⟨f1, f2⟩ := readRow_fit hr
  have hp := readRow_pos hr
  unfold rdL at he
  injection he with e1 e2
  subst e1 e2
  rcases stepT_eats (rdInt st).2 with e | e
  · rw [e] at hp
    simp at hp
  · rw [list_size] at hp f1 f2
    rcases rdInt_eats st with ⟨e2, _⟩ | ⟨e2, _⟩
    · rw [e2, List.length_nil] at e
      omega
    · have a := rdInt_len (stepT (rdInt st).2).2
      have b := rdInt_len (rdInt (stepT (rdInt st).2).2).2
      have c := rdInt_len (rdInt (rdInt (stepT (rdInt st).2).2).2).2
      refine ⟨by omega, ?_, fun v hv => ?_, rdInt_i64 _, rdInt_i64 _, rdInt_i64 _, rdInt_i64 _, rfl, rfl⟩
      · show r.length ≤ _
        omega
      · have := f2 v hv
        omega
end Go.Proofs.YtemhapmbcbbljaaGreatDoor
end

section
namespace Go.Proofs.YtemhapmbcbbljaaGreatDoor
set_option maxRecDepth 100000
open Go.Vc
def Mwire_items_int (rB rO : Nat) (oneF : FuncId) (oneB : Array Value) (W : World) (R : List Own) (Φ : PW) (J : Value → World → Prop) : Prop :=
  ∀ w0 R1, Ctx W w0 (R ++ R1) Φ → Calls Tryz.prog F.wire_Reader_number #[.pointer (some (Addr.mk rB rO none)), .int IntKind.u8 91, .int .i64 0] w0 fun e2 w3 => ∃ n4, e2 = .returned (.int .i64 n4) ∧ ∃ R5 Φ6, Stable Φ6 ∧ Ctx W w3 (R5 ++ R1) Φ6 ∧ exI fun (I7 : Option Addr → Nat → Nat → Int → List Own → PW → Nat → Prop) => (∃ R8 Φ9 k10, Stable Φ9 ∧ Wk W R5 Φ6 R8 Φ9 ∧ I7 none 0 0 n4 R8 Φ9 k10) ∧ ∀ p13 k14 k15 n16 R17 I18 k19, Stable I18 → I7 p13 k14 k15 n16 R17 I18 k19 → ∀ w20 R21, Ctx W w20 (R17 ++ R21) I18 → ∃ (c22 : Bool), (decide (0 < n16) = true → w20.cell? (Addr.mk rB (rO + 1) none) = some (.bool c22)) ∧ Br (decide (0 < n16) && !c22) (∀ w23 R24, Ctx W w23 (R17 ++ R24) I18 → okFun Tryz.prog oneF = true ∧ Calls Tryz.prog oneF (Array.mk ((oneB.toList.append []).append [])) w23 fun e25 w26 => ∃ n27, e25 = .returned (.int .i64 n27) ∧ ∃ R28 Φ29, Stable Φ29 ∧ Ctx W w26 (R28 ++ R24) Φ29 ∧ ∀ (k30
  : Nat) (w31 : World) (R32 : List Own), Ctx W w31 (Own.blk k30 [.int .i64 n27] 3 :: R28 ++ R32) Φ29 → ∃ (p33 : Option Addr) (k34 k35 : Nat) (w36 : World), Sem.run Tryz.prog (builtin Builtin.append #[22, 22] 22 #[false, false] #[.slice p13 k14 k15, .slice (some (Addr.mk k30 0 none)) 1 1]) w31 = .ok (.value (.slice p33 k34 k35)) w36 ∧ ∃ R37 Φ38, Stable Φ38 ∧ Ctx W w36 (R37 ++ R32) Φ38 ∧ I64 (n16 - 1) ∧ ∃ R39 Φ40 k41, Stable Φ40 ∧ Wk W R37 Φ38 R39 Φ40 ∧ I7 p33 k34 k35 (n16 - 1) R39 Φ40 k41 ∧ k41 < k19) (∀ w44 R45, Ctx W w44 (R17 ++ R45) I18 → Calls Tryz.prog F.wire_Reader_close #[.pointer (some (Addr.mk rB rO none)), Value.string (ByteArray.mk #[OfNat.ofNat 93])] w44 fun e46 w47 => e46 = .returned (Value.tuple #[]) ∧ ∃ R48 Φ49, Stable Φ49 ∧ Ctx W w47 (R48 ++ R45) Φ49 ∧ ∀ w50 R51, Ctx W w50 (R48 ++ R51) Φ49 → ∃ c52, w50.cell? (Addr.mk rB (rO + 1) none) = some (.bool c52) ∧ Br c52 (∀ w53 R54,
  Ctx W w53 (R48 ++ R54) Φ49 → J (.slice none 0 0) w53) (∀ w55 R56, Ctx W w55 (R48 ++ R56) Φ49 → J (.slice p13 k14 k15) w55))
theorem Mwire_items_int_run (rB rO : Nat) (oneF : FuncId) (oneB : Array Value) {W w : World} {R : List Own} {Φ : PW} [Stable Φ] {J : Value → World → Prop} (c : Ctx W w R Φ) (h : Mwire_items_int rB rO oneF oneB W R Φ J) : Calls Tryz.prog F.wire_items_int #[.pointer (some ⟨rB, rO, none⟩), .func (.func oneF) oneB #[]] w fun e w' => ∃ v, e = .returned v ∧ J v w' :=
  vcFS_sound (H := { keep := some [0, 1, 4, 5, 6, 17, 30], wrap := [22], loops := [(3, [(5, .one (.slice)), (6, .one (.int .i64))], [])] }) (by rw [show vcFS Tryz.prog W { keep := some [0, 1, 4, 5, 6, 17, 30], wrap := [22], loops := [(3, [(5, .one (.slice)), (6, .one (.int .i64))], [])] } F.wire_items_int #[.pointer (some ⟨rB, rO, none⟩), .func (.func oneF) oneB #[]] R Φ J = Mwire_items_int rB rO oneF oneB W R Φ J by kernel_rfl]; exact h) c
end Go.Proofs.YtemhapmbcbbljaaGreatDoor
end

