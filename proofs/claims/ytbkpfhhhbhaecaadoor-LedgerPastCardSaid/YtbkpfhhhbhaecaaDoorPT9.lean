/-
  Nets of lines, out of a slice that is told or owned; Net, Upto, At; Lines; the reference's net.
-/
import Derived.Test.YtbkpfhhhbhaecaaDoorPT8
import Derived.Shelf.Strconv.AtoiAll
import Derived.Lib.AtoiErrMem
import Derived.Lib.AtoiAllCases
import Derived.Test.YtbkpfhhhbhaecaaDoorPT5
import Derived.Test.YtbkpfhhhbhaecaaDoorPT7
import Derived.Test.YtbkpfhhhbhaecaaDoorPT1

section
set_option linter.unusedVariables false
set_option linter.unusedSimpArgs false
namespace Go.Proofs.YtbkpfhhhbhaecaaDoor
open Go.Vc


theorem subPtr_zero (p : Option Addr) (s m : Nat) : subPtr p s 0 m = p := by
  unfold subPtr
  split
  · rfl
  · cases p with
    | none => rfl
    | some a => simp [Addr.add]

section
variable {Φ : PW} {q : LP} {st : LedD} {W w : World} {R S G : List Own} {p : Option Addr} {cap : Nat} {l : List LineD} {cs : List Value}

theorem src_all (hq : LedQ q st) (hF : ∀ M w, Φ M w → Elems M w q.cs st.lines) : Src (LedO q st) Φ q.lp st.lines q.cs := by
  have h := src_led (Φ := Φ) hq hF 0 st.lines.length (by omega)
  rw [subPtr_zero, Nat.zero_mul, List.drop_zero, List.drop_zero, List.take_length, ← hq.len, List.take_length] at h
  exact h
theorem src_pre (hq : LedQ q st) (hF : ∀ M w, Φ M w → Elems M w q.cs st.lines) (n : Nat) (hn : n ≤ st.lines.length) : Src (LedO q st) Φ (subPtr q.lp 7 0 q.lc) (st.lines.take n) (q.cs.take (n * 7)) := by
  have h := src_led (Φ := Φ) hq hF 0 n (by omega)
  rw [Nat.zero_mul, List.drop_zero, List.drop_zero] at h
  exact h

theorem src_row (src : Src S Φ p l cs) {b o i : Nat} (hp : p = some ⟨b, o, none⟩) (c : Ctx W w (S ++ G) Φ) (hi : i < l.length) : ∃ r rc, RowAt w b (o + i * 7) (l[i].cells r rc) ∧ (cs.drop (i * 7)).take 7 = l[i].cells r rc ∧ l[i].row.length ≤ rc ∧ rc ≤ maxLen ∧ l[i].In := by
  obtain ⟨r, rc, he, h1, h2, h3, _⟩ := lrow (src.el _ _ c.phi) hi
  refine ⟨r, rc, fun j hj => ?_, he, h1, h2, h3⟩
  have := src.rd hp c (i * 7 + j) _ (rows_of (vs := l[i].cells r rc) he j hj)
  rw [← Nat.add_assoc] at this
  exact this
theorem src_sl (src : Src S Φ p l cs) {i : Nat} (hi : i < l.length) {r : Option Addr} {rc : Nat} (he : (cs.drop (i * 7)).take 7 = l[i].cells r rc) {M : List Nat} (h : Φ M w) : Sl M w r l[i].row := by
  have := (src.el M w h).2 i hi
  rw [show (Gv.ty LineD).size = 7 from rfl, he] at this
  exact line_row this

/-- append one delta that was made of a line -/
theorem pushLD {PS : PW} [Stable PS] {op : Option Addr} {oc : Nat} {ds : List Value} {o : List DeltaD} {x : LineD} {r : Option Addr} {rc kb : Nat} (hx : ∀ M w, PS M w → Sl M w r x.row) (h1 : x.row.length ≤ rc) (h2 : rc ≤ maxLen) (h3 : x.In) (ho : o.length < 10000000)
    (cx : Ctx W w (.blk kb (x.d.cells r rc) 77 :: .buf op o.length oc ds 77 3 :: R ++ G) (fun M w => PS M w ∧ Elems M w ds o)) :
    ∃ p c w', Sem.run Tryd.prog (builtin Builtin.append #[55, 55] 55 #[false, false] #[.slice op o.length oc, .slice (some ⟨kb, 0, none⟩) 1 1]) w = .ok (.value (.slice p (o ++ [x.d]).length c)) w' ∧ Ctx W w' (.buf p (o ++ [x.d]).length c (ds ++ x.d.cells r rc) 77 3 :: R ++ G) (fun M w => PS M w ∧ Elems M w (ds ++ x.d.cells r rc) (o ++ [x.d])) :=
  push1 (x := x.d) (fun M w h => rep_delta (x := x.d) h1 h2 h3.time h3.n (hx M w h)) ho cx

set_option maxHeartbeats 1000000 in
theorem net_src [Stable Φ] (src : Src S Φ p l cs) (hlen : l.length ≤ 400000) (hrow : ∀ x ∈ l, x.row.length ≤ 1000000) (c : Ctx W w S Φ) :
    Calls Tryd.prog F.ledger_net #[.slice p l.length cap] w fun e w' => ∃ p' c', e = .returned (.slice p' (netP l).length c') ∧ (netP l).length ≤ c' ∧ c' ≤ maxLen ∧ Ctx W w' S (fun M w => Φ M w ∧ Sl M w p' (netP l)) := by
  refine (Bledger_net_run p l.length cap (J := fun v w' => ∃ p' c', v = .slice p' (netP l).length c' ∧ (netP l).length ≤ c' ∧ c' ≤ maxLen ∧ Ctx W w' S (fun M w => Φ M w ∧ Sl M w p' (netP l))) c ?_).mono fun e w' ⟨v, he, p', c', hv, rest⟩ => ⟨p', c', by rw [he, hv], rest⟩
  clear c
  refine exI_mk (fun sp sn sc iI R' Φ' k => ∃ (i : Nat) (ds : List Value), iI = i ∧ i ≤ l.length ∧ sn = ((l.take i).map LineD.d).length ∧ R' = .buf sp sn sc ds 77 3 :: S ∧ Φ' = (fun M w => Φ M w ∧ Elems M w ds ((l.take i).map LineD.d)) ∧ k = l.length - i)
    ⟨⟨.buf none 0 0 [] 77 3 :: S, fun M w => Φ M w ∧ Elems M w [] ((l.take 0).map LineD.d), _, inferInstance, fun w G cx => (cx.weak fun M w h => ⟨h, Elems.nil⟩).nobuf 77 3, 0, [], rfl, Nat.zero_le _, rfl, rfl, rfl, rfl⟩, ?_⟩
  rintro sp _ sc iI R1 Φ1 k _ ⟨i, ds, rfl, hi, rfl, rfl, rfl, rfl⟩
  have hln : ((l.take i).map LineD.d).length = i := by simp; omega
  refine Br.intro (fun hlt => ?_) (fun hge => fun w G cx => ?_)
  · have hlt : i < l.length := by have := of_decide_eq_true hlt; omega
    obtain ⟨b, o, hp⟩ := src.ptr (by omega)
    refine ⟨by omega, ptrK_intro b o hp fun w G cx => ?_⟩
    obtain ⟨r, rc, hr, he, h1, h2, h3⟩ := src_row src hp (Ctx.drop1 cx).fst hlt
    refine ⟨l[i].no, l[i].batch, l[i].time, r, l[i].row.length, rc, l[i].n, l[i].cause, l[i].why, by rw [Int.toNat_natCast]; exact hr, fun _ kb w G cx => ?_⟩
    obtain ⟨p', c', w', hrun, cx'⟩ := pushLD (x := l[i]) (PS := Φ) (fun M w h => src_sl src hlt he h) h1 h2 h3 (by omega) cx
    have htk : (l.take (i + 1)).map LineD.d = (l.take i).map LineD.d ++ [l[i].d] := by rw [List.take_succ_eq_append_getElem hlt, List.map_append]; rfl
    rw [← htk] at hrun cx'
    have hst3 : Stable (fun M w => Φ M w ∧ Elems M w (ds ++ l[i].d.cells r rc) ((l.take (i + 1)).map LineD.d)) := inferInstance
    exact ⟨p', _, c', w', hrun, _, _, hst3, cx', by unfold I64; omega, _, _, l.length - (i + 1), hst3, fun w G cx => cx, ⟨i + 1, _, by omega, hlt, rfl, rfl, rfl, rfl⟩, by omega⟩
  · have hi : i = l.length := by have := of_decide_eq_false hge; omega
    subst hi
    rw [List.take_length] at cx ⊢
    obtain ⟨cx3, hs, _⟩ := Ctx.freeze (α := DeltaD) cx.fst cx.phi.2
    have hst4 : Stable (fun M w => Φ M w ∧ Sl M w sp (l.map LineD.d)) := inferInstance
    refine (Consolidate_sl (Φ := fun M w => Φ M w ∧ Sl M w sp (l.map LineD.d)) sp sc (l.map LineD.d) (fun M w h => h.2) (by simp; omega) (fun x hx => ?_)).use (cx3.add hs) fun p3 c3 w h1 h2 cx => ⟨p3, _, c3, rfl, S, fun M w => Φ M w ∧ Sl M w p3 (netP l), inferInstance, cx.weak fun M w h => ⟨h.1.1, h.2⟩, fun w G cx => ⟨p3, c3, rfl, h1, h2, cx.left⟩⟩
    obtain ⟨y, hy, rfl⟩ := List.mem_map.1 hx
    exact hrow y hy

theorem Net_q [Stable Φ] (hq : LedQ q st) (hs : LedS st) [hF : Has Φ (LF q st)] : GivesQSl (LedO q st) Φ Tryd.prog F.ledger_Ledger_Net #[led q] (netP st.lines) := by
  have := hs.lines
  exact gives_qsl (Bledger_Ledger_Net_run q.lb 0) fun W R => fun w G cx => ⟨_, _, _, led_cell (i := 0) cx rfl, fun w G cx =>
    (net_src (S := (LedO q st ++ R) ++ G) (src_all (Φ := Φ) hq hF.go).app.app (by omega) hs.rows cx).mono fun e w' ⟨p', c', he, h1, h2, cx⟩ => ⟨p', _, c', he, _, _, inferInstance, cx, fun w G cx => ⟨p', c', rfl, h1, h2, cx.left⟩⟩⟩

theorem Lines_q [Stable Φ] (hq : LedQ q st) (hs : LedS st) [hF : Has Φ (LF q st)] : GivesQSl (LedO q st) Φ Tryd.prog F.ledger_Ledger_Lines #[led q] st.lines := by
  have := hs.lines
  exact gives_qsl (Bledger_Ledger_Lines_run q.lb 0) fun W R => fun w G cx => ⟨_, _, _, led_cell (i := 0) cx rfl, fun w G cx =>
    (Cloned_new (S := (LedO q st ++ R) ++ G) (src_all (Φ := Φ) hq hF.go).app.app (by omega) hs.rows cx).mono fun e w' ⟨p', c', cs', he, cx⟩ => by
      obtain ⟨c2, hs, _, h2, h3⟩ := Ctx.freeze (α := LineD) cx cx.phi.2
      exact ⟨p', _, c', he, (LedO q st ++ R), _, inferInstance, (c2.add hs).weak fun M w h => ⟨h.1.1, h.2⟩, fun w G cx => ⟨p', c', rfl, h2, h3, cx.left⟩⟩⟩

theorem net_len (l : List LineD) : (netP l).length ≤ l.length := Nat.le_trans (consP_len _) (by simp)

/-- the lines up to a batch -/
def endP : List BatD → Int → Nat → Nat
  | [], _, e => e
  | b :: l, no, e => endP l no (if b.no ≤ no then b.stop else e)
theorem endP_take {l : List BatD} {no : Int} {i : Nat} (h : i < l.length) (e : Nat) : endP (l.take (i + 1)) no e = if l[i].no ≤ no then l[i].stop else endP (l.take i) no e := by
  induction l generalizing i e with
  | nil => simp at h
  | cons b l ih =>
    cases i with
    | zero => rfl
    | succ i => exact ih (i := i) (by simpa using h) _
theorem endP_le {m : Nat} {no : Int} : ∀ {l : List BatD} {e : Nat}, (∀ b ∈ l, b.stop ≤ m) → e ≤ m → endP l no e ≤ m
  | [], e, _, h => h
  | b :: l, e, hl, h => by
    unfold endP
    refine endP_le (fun c hc => hl c (by simp [hc])) ?_
    split
    · exact hl b (by simp)
    · exact h

set_option maxHeartbeats 1000000 in
theorem At_q [Stable Φ] {no : Int} (hq : LedQ q st) (hs : LedS st) [hF : Has Φ (LF q st)] : GivesQSl (LedO q st) Φ Tryd.prog F.ledger_Ledger_At #[led q, .int .i64 no] (netP (st.lines.take (endP st.bats no 0))) := by
  have h1 := hs.lines
  have h3 := hs.bats
  refine gives_qsl (Bledger_Ledger_At_run q.lb 0 no) fun W R => fun w G cx => ⟨_, _, _, led_cell (i := 1) cx rfl, ?_⟩
  clear cx
  refine exI_mk (fun eI iI R' Φ' k => ∃ i : Nat, iI = i ∧ i ≤ st.bats.length ∧ eI = (endP (st.bats.take i) no 0 : Nat) ∧ R' = LedO q st ++ R ∧ Φ' = Φ ∧ k = st.bats.length - i) ⟨⟨_, _, _, inferInstance, fun w G cx => cx, 0, rfl, Nat.zero_le _, rfl, rfl, rfl, rfl⟩, ?_⟩
  rintro eI iI R1 Φ1 k _ ⟨i, rfl, hi, rfl, rfl, rfl, rfl⟩
  refine Br.intro (fun hlt => ?_) (fun hge => fun w G cx => ⟨_, _, _, led_cell (i := 0) cx rfl, ?_⟩)
  · have hlt : i < st.bats.length := by have := of_decide_eq_true hlt; omega
    obtain ⟨g, hg⟩ := hq.bpt (by omega)
    have he := endP_take (no := no) hlt 0
    refine ⟨by omega, ptrK_intro g 0 hg fun w G cx => ⟨st.bats[i].no, st.bats[i].mark, (st.bats[i].stop : Int), by rw [Int.toNat_natCast]; exact led_bat cx hg hlt, fun _ => Br.intro (fun h => ?_) (fun h => ?_)⟩⟩
    · exact ⟨by unfold I64; omega, _, _, st.bats.length - (i + 1), inferInstance, fun w G cx => cx, ⟨i + 1, rfl, hlt, by rw [he, if_pos (of_decide_eq_true h)], rfl, rfl, rfl⟩, by omega⟩
    · exact ⟨by unfold I64; omega, _, _, st.bats.length - (i + 1), inferInstance, fun w G cx => cx, ⟨i + 1, rfl, hlt, by rw [he, if_neg (of_decide_eq_false h)], rfl, rfl, rfl⟩, by omega⟩
  · have hge : i = st.bats.length := by have := of_decide_eq_false hge; omega
    subst hge
    clear cx
    rw [List.take_length]
    have hle := endP_le (no := no) (e := 0) hs.stop (Nat.zero_le _)
    obtain ⟨n, hn⟩ : ∃ n, endP st.bats no 0 = n := ⟨_, rfl⟩
    rw [hn] at hle ⊢
    have hln : (st.lines.take n).length = n := by rw [List.length_take]; omega
    have hrow : ∀ x ∈ st.lines.take n, x.row.length ≤ 1000000 := fun x hx => hs.rows x (List.mem_of_mem_take hx)
    have hlc := hq.lcap.1
    refine ⟨by omega, fun w G cx => ?_⟩
    rw [Int.toNat_natCast]
    have := net_src (cap := q.lc) (S := (LedO q st ++ R) ++ G) (src_pre hq hF.go n hle).app.app (by omega) hrow cx
    rw [hln] at this
    exact this.mono fun e w' ⟨p', c', he, h1, h2, cx⟩ => ⟨p', _, c', he, _, _, inferInstance, cx, fun w G cx => ⟨p', c', rfl, h1, h2, cx.left⟩⟩
end
end Go.Proofs.YtbkpfhhhbhaecaaDoor
end

/-
  Right rows; what a ledger checks: walked.
-/
section
set_option linter.unusedVariables false
set_option linter.unusedSimpArgs false
namespace Go.Proofs.YtbkpfhhhbhaecaaDoor
open Go.Vc


/-! ### right rows -/
theorem vInt_g (n : Int) : Gives Tryd.prog F.value_Int #[.int .i64 n] (.agg #[.int .i64 0, .int .i64 n, .string (ByteArray.mk #[])]) :=
  gives_of (Bvalue_Int_run n) fun W R Φ _ => fun _ w G c => ⟨rfl, c.left⟩
theorem vText_g (s : ByteArray) : Gives Tryd.prog F.value_Text #[.string s] (.agg #[.int .i64 1, .int .i64 0, .string s]) :=
  gives_of (Bvalue_Text_run s) fun W R Φ _ => fun _ w G c => ⟨rfl, c.left⟩
theorem vBool_g (b : Bool) : Gives Tryd.prog F.value_Bool #[.bool b] (.agg #[.int .i64 2, .int .i64 (if b = true then 1 else 0), .string (ByteArray.mk #[])]) :=
  gives_of (Bvalue_Bool_run b) fun W R Φ _ => fun _ => Br.intro (fun h => fun w G c => ⟨by rw [if_pos h], c.left⟩) (fun h => fun w G c => ⟨by rw [if_neg (by rw [h]; simp)], c.left⟩)

theorem vRight_g (x : ValD) : Gives Tryd.prog F.value_Right #[x.v] (.bool (rightV3 x)) := by
  refine gives_of (Bvalue_Right_run x.kind x.num x.text) fun W R Φ _ => fun _ => Br.intro (fun h => ?_) (fun h => Br.intro (fun h2 => ?_) (fun h2 => ?_))
  · refine ⟨R, Φ, inferInstance, fun w G c => c, fun w G cx => (vInt_g x.num).use cx fun w c => ⟨0, x.num, ByteArray.mk #[], rfl, R, Φ, inferInstance, c, fun w G c => c, by kernel_rfl, fun w G c => ⟨?_, c.left⟩⟩⟩
    have h := of_decide_eq_true h
    unfold rightV3
    rw [if_pos h, decide_eq_true h, decide_eq_true rfl, Bool.true_and, Bool.true_and, Bool.and_true]
  · refine ⟨R, Φ, inferInstance, fun w G c => c, fun w G cx => (vText_g x.text).use cx fun w c => ⟨1, 0, x.text, rfl, R, Φ, inferInstance, c, fun w G c => c, by kernel_rfl, ?_⟩⟩
    have h := of_decide_eq_false h
    have h2 := of_decide_eq_true h2
    refine Br.intro (fun h3 => fun w G c => ⟨?_, c.left⟩) (fun h3 => fun w G c => ⟨?_, c.left⟩)
    · unfold rightV3
      rw [if_neg h, if_pos h2]
      have : x.num = 0 := by simp at h3; exact h3.2
      rw [decide_eq_true this, Bool.true_and]
    · unfold rightV3
      rw [if_neg h, if_pos h2]
      have : x.num ≠ 0 := by
        intro e
        rw [decide_eq_true h2, decide_eq_true e, decide_eq_true rfl] at h3
        cases h3
      rw [decide_eq_false this, Bool.false_and]
  · have h := of_decide_eq_false h
    have h2 := of_decide_eq_false h2
    have hr : rightV3 x = (decide (x.kind = 2) && (decide (x.num = 0) || decide (x.num = 1)) && decide (x.text = ByteArray.mk #[])) := by unfold rightV3; rw [if_neg h, if_neg h2]
    refine ⟨R, Φ, inferInstance, fun w G c => c, fun w G cx => (vBool_g false).use cx fun w c => ⟨2, 0, ByteArray.mk #[], rfl, R, Φ, inferInstance, c, fun w G c => c, R, Φ, inferInstance, fun w G c => c, by kernel_rfl, ?_⟩⟩
    refine Br.intro (fun h3 => fun w G c => ⟨?_, c.left⟩) (fun h3 => fun w G cx => (vBool_g true).use cx fun w c => ⟨2, 1, ByteArray.mk #[], rfl, R, Φ, inferInstance, c, fun w G c => c, by kernel_rfl, fun w G c => ⟨?_, c.left⟩⟩)
    · rw [hr]
      simp at h3
      simp [h3]
    · rw [hr]
      congr 1
      by_cases k1 : x.kind = 2
      · by_cases k2 : x.text = ByteArray.mk #[]
        · by_cases k3 : x.num = 0
          · rw [k1, k2, k3] at h3
            simp at h3
          · simp [k1, k2, k3]
        · simp [k2]
      · simp [k1]

section
variable {Φ : PW} {q : LP} {st : LedD} {W w : World} {R S G : List Own} {p : Option Addr} {cap : Nat} {r : List ValD}

theorem all1_g (x : ValD) : Gives Tryd.prog F.value_all_1 #[x.v] (.bool (!rightV3 x)) :=
  gives_of (Bvalue_all_1_run x.kind x.num x.text) fun W R Φ _ => fun _ w G cx => (vRight_g x).use cx fun w c => ⟨_, rfl, R, Φ, inferInstance, c, fun w G c => ⟨rfl, c.left⟩⟩

theorem IndexV_in [Stable Φ] (f : FuncId) (g : ValD → Bool) [hΦ : Has Φ (fun M w => Sl M w p r)] (hlen : r.length ≤ maxLen) (hf : okFun Tryd.prog f = true) (cp : Array Value) (hg : ∀ x : ValD, Gives Tryd.prog f (Array.mk (x.v :: cp.toList)) (.bool (g x))) :
    GivesIn Φ Tryd.prog F.slices_IndexFunc_api_Value_api_Value #[.slice p r.length cap, .func (.func f) #[] cp] (.int .i64 (findI g 0 r)) := by
  refine .there (fun M w h => (hΦ.go M w h).there) fun hth => ?_
  refine gives_in (Bslices_IndexFunc_api_Value_api_Value_run p r.length cap f cp) fun W R => ?_
  refine exI_mk (fun n R' Φ' k => ∃ i : Nat, n = i ∧ i ≤ r.length ∧ R' = R ∧ Φ' = Φ ∧ k = r.length - i ∧ findI g 0 r = findI g i (r.drop i)) ⟨⟨R, Φ, _, inferInstance, fun w F c => c, 0, rfl, Nat.zero_le _, rfl, rfl, rfl, rfl⟩, ?_⟩
  rintro n R1 Φ1 k _ ⟨i, rfl, hi, rfl, rfl, rfl, hor⟩
  refine Br.intro (fun hlt => ?_) (fun hge => fun w F cx => ⟨?_, cx.left⟩)
  · have hlt : i < r.length := by simpa using hlt
    rw [findI_drop g r i hlt] at hor
    obtain ⟨b, o, rfl⟩ := hth (by omega)
    refine ⟨by omega, ptrK_intro b o rfl fun w F cx => ⟨r[i].kind, r[i].num, r[i].text, by rw [Int.toNat_natCast]; exact sl_val (hΦ.go _ _ cx.phi) hlt, fun w F cx => ⟨hf, (hg r[i]).use cx fun w cx => ⟨g r[i], rfl, R1, Φ1, inferInstance, cx, Br.intro (fun h => fun w F cx => ⟨?_, cx.left⟩) (fun h => ⟨by unfold I64; unfold maxLen at hlen; omega, R1, Φ1, r.length - (i + 1), inferInstance, fun w F c => c, ⟨i + 1, rfl, hlt, rfl, rfl, rfl, ?_⟩, by omega⟩)⟩⟩⟩⟩
    · rw [hor, if_pos h]
    · rw [hor, if_neg (by rw [h]; simp)]
  · have hge : i = r.length := Nat.le_antisymm hi (by simpa using hge)
    rw [hor, hge, List.drop_length]
    rfl

theorem RightRow_in [Stable Φ] [hΦ : Has Φ (fun M w => Sl M w p r)] : GivesIn Φ Tryd.prog F.value_RightRow #[.slice p r.length cap] (.bool (rightR r)) := by
  refine gives_in (Bvalue_RightRow_run p r.length cap) fun W R => Br.intro (fun h => ?_) (fun h => fun w G cx => ⟨?_, cx.left⟩)
  · have h1 := of_decide_eq_true h
    have hml : r.length ≤ maxLen := by have h2 : (12 : Nat) ≤ maxLen := (by decide); omega
    have hcon : GivesIn Φ Tryd.prog F.slices_ContainsFunc_api_Value_api_Value #[.slice p r.length cap, .func (.func F.value_all_1) #[] #[]] (.bool (r.any fun x => !rightV3 x)) := by
      refine gives_in (Bslices_ContainsFunc_api_Value_api_Value_run p r.length cap F.value_all_1 #[]) fun W R => ?_
      exact fun w G cx => (IndexV_in (r := r) F.value_all_1 (fun x => !rightV3 x) hml (by kernel_rfl) #[] all1_g).toI cx fun w G cx => ⟨by rw [findI_any], cx.left⟩
    have hall : GivesIn Φ Tryd.prog F.value_all #[.slice p r.length cap] (.bool (r.all rightV3)) := by
      refine gives_in (Bvalue_all_run p r.length cap) fun W R => ?_
      refine fun w G cx => hcon.toB cx fun w G cx => ⟨?_, cx.left⟩
      rw [List.all_eq_not_any_not]
    refine fun w G cx => hall.toB cx fun w G cx => ⟨?_, cx.left⟩
    unfold rightR
    rw [decide_eq_true h1, Bool.true_and]
  · unfold rightR
    rw [decide_eq_false (of_decide_eq_false h), Bool.false_and]

/-! ### one line -/
def causedP (x : LineD) (mark : Int) : Bool :=
  if x.cause = 0 then decide (mark < x.time) && decide (x.why = 0) else if x.cause = 1 then decide (x.time ≤ mark) && decide (x.why = 0) else if x.cause = 2 then decide (0 < x.why) else false
def ascP (x y : LineD) : Bool := decide (x.time < y.time) || (decide (x.time = y.time) && decide (cmpR x.row y.row < 0))

theorem caused_in [Stable Φ] (x : LineD) (r : Option Addr) (rc : Nat) (mark : Int) : GivesIn Φ Tryd.prog F.ledger_caused #[x.v r rc, .int .i64 mark] (.bool (causedP x mark)) := by
  refine gives_in (Bledger_caused_run x.no x.batch x.time r x.row.length rc x.n x.cause x.why mark) fun W R => fun _ => ?_
  unfold causedP
  refine Br.intro (fun h => fun w G cx => fun w G cx => ⟨by rw [if_pos (of_decide_eq_true h)], cx.left⟩) (fun h => ?_)
  rw [if_neg (of_decide_eq_false h)]
  refine Br.intro (fun h => fun w G cx => fun w G cx => ⟨by rw [if_pos (of_decide_eq_true h)], cx.left⟩) (fun h => ?_)
  rw [if_neg (of_decide_eq_false h)]
  refine Br.intro (fun h => fun w G cx => ⟨by rw [if_pos (of_decide_eq_true h)], cx.left⟩) (fun h => fun w G cx => ⟨by rw [if_neg (of_decide_eq_false h)], cx.left⟩)

theorem asc_in [Stable Φ] (x y : LineD) (r : Option Addr) (rc : Nat) (s : Option Addr) (sc : Nat) [hX : Has Φ (fun M w => Sl M w r x.row)] [hY : Has Φ (fun M w => Sl M w s y.row)] (hlen : x.row.length ≤ 1000000) : GivesIn Φ Tryd.prog F.ledger_ascends #[x.v r rc, y.v s sc] (.bool (ascP x y)) := by
  refine gives_in (Bledger_ascends_run x.no x.batch x.time r x.row.length rc x.n x.cause x.why y.no y.batch y.time s y.row.length sc y.n y.cause y.why) fun W R => fun _ _ => ?_
  unfold ascP
  refine Br.intro (fun h => fun w G cx => ⟨by rw [h]; rfl, cx.left⟩) (fun h => Br.intro (fun h2 => fun w G cx => (CompareRows_in r s rc sc x.row y.row hX.go hY.go (by omega)).toI cx fun w G cx => ⟨by rw [h, h2]; rfl, cx.left⟩) (fun h2 => fun w G cx => ⟨by rw [h, h2]; rfl, cx.left⟩))

theorem at_use [Stable Φ] (x : LineD) (r : Option Addr) (rc : Nat) [hT : Has Φ TabI] [hX : Has Φ (fun M w => Sl M w r x.row)] (hlen : x.row.length ≤ 1000000) (ht : ∀ v ∈ x.row, v.text.size ≤ 10000) (c : Ctx W w (R ++ G) Φ) {K : Int → ByteArray → List Own → PW → Prop} (hk : K x.at.1 x.at.2 R Φ) :
    Calls Tryd.prog F.ledger_at #[x.v r rc] w fun e w' => ∃ n s, e = .returned (.agg #[.int .i64 n, .string s]) ∧ ∃ R' Φ', Stable Φ' ∧ Ctx W w' (R' ++ G) Φ' ∧ K n s R' Φ' := by
  refine (Bledger_at_run x.no x.batch x.time r x.row.length rc x.n x.cause x.why (J := fun v w' => v = .agg #[.int .i64 x.at.1, .string x.at.2] ∧ Ctx W w' (R ++ G) Φ) c ?_).mono fun e w' ⟨v, he, hv, c'⟩ => ⟨_, _, by rw [he, hv], R, Φ, inferInstance, c', hk⟩
  clear c
  refine fun _ _ => ⟨R ++ G, Φ, inferInstance, fun w G2 cx => cx, fun w G2 cx => (RowBytes_in r rc x.row hT.go hX.go hlen ht).toS cx ⟨fun w G2 cx => cx, fun w G2 cx => ⟨rfl, cx.left⟩⟩⟩

theorem check1_in [Stable Φ] (x : LineD) (r : Option Addr) (rc : Nat) [hX : Has Φ (fun M w => Sl M w r x.row)] : GivesIn Φ Tryd.prog F.ledger_Ledger_check_1 (Array.mk (x.v r rc :: [])) (.bool (!rightR x.row)) :=
  gives_in (Bledger_Ledger_check_1_run x.no x.batch x.time r x.row.length rc x.n x.cause x.why) fun W R => fun _ w G cx => (RightRow_in (r := x.row)).toB cx fun w G cx => ⟨rfl, cx.left⟩
end
end Go.Proofs.YtbkpfhhhbhaecaaDoor
end

/-
  What a ledger checks ahead of appending: walked.
-/
section
set_option linter.unusedVariables false
set_option linter.unusedSimpArgs false
namespace Go.Proofs.YtbkpfhhhbhaecaaDoor
open Go.Vc


/-! ### plain -/
def okLine (nx no mark lm : Int) (x : LineD) : Bool := decide (x.no = nx) && decide (x.batch = no) && decide (0 ≤ x.time) && decide (x.time ≤ mark) && decide (x.n ≠ 0) && causedP x lm
def ascO : Option LineD → LineD → Bool
  | none, _ => true
  | some y, x => ascP y x
def okFrom (no mark lm : Int) : Int → Option LineD → List LineD → Bool
  | _, _, [] => true
  | nx, pv, x :: l => okLine nx no mark lm x && ascO pv x && okFrom no mark lm (nx + 1) (some x) l
def prevAt (L : List LineD) (i : Nat) : Option LineD := if i = 0 then none else L[i - 1]?
theorem okFrom_drop {no mark lm nx : Int} {L : List LineD} {i : Nat} (h : i < L.length) : okFrom no mark lm (nx + i) (prevAt L i) (L.drop i) = (okLine (nx + i) no mark lm L[i] && ascO (prevAt L i) L[i] && okFrom no mark lm (nx + ((i + 1 : Nat) : Int)) (prevAt L (i + 1)) (L.drop (i + 1))) := by
  rw [List.drop_eq_getElem_cons h]
  have e : prevAt L (i + 1) = some L[i] := by unfold prevAt; rw [if_neg (by omega), Nat.add_sub_cancel, List.getElem?_eq_getElem h]
  rw [e, show nx + ((i + 1 : Nat) : Int) = nx + i + 1 by omega]
  rfl
def overP (st : LedD) (x : LineD) : Bool := decide (x.n < 0 - cntL st.lines x.at) || decide (1152921504606846976 - cntL st.lines x.at < x.n)
def checkP (st : LedD) (no mark : Int) (L : List LineD) : Int :=
  if no ≤ (lastP st).no then 25 else if mark < (lastP st).mark then 25 else if 1099511627776 < mark then 25
  else if okFrom no mark (lastP st).mark (st.lines.length + 1) none L = false then 1
  else if (L.any fun x => !rightR x.row) = true then 16 else if L.any (overP st) = true then 7 else 0

def CntOk (st : LedD) : Prop := ∀ k, 0 ≤ cntL st.lines k ∧ cntL st.lines k ≤ 1152921504606846976

section
variable {Φ : PW} {q : LP} {st : LedD} {W w : World} {R S G : List Own} {p : Option Addr} {cap : Nat} {L : List LineD} {cs : List Value}

abbrev Rows7 (cs : List Value) (l : List LineD) : Prop := ∀ i (h : i < l.length), ∃ r rc, (cs.drop (i * 7)).take 7 = l[i].cells r rc ∧ l[i].row.length ≤ rc ∧ rc ≤ maxLen ∧ l[i].In
theorem rows7 {M : List Nat} (h : Elems M w cs L) : Rows7 cs L := fun i hi => by
  obtain ⟨r, rc, he, h1, h2, h3, _⟩ := lrow h hi
  exact ⟨r, rc, he, h1, h2, h3⟩
theorem src_at (src : Src S Φ p L cs) {b o i : Nat} (hp : p = some ⟨b, o, none⟩) (c : Ctx W w (S ++ G) Φ) {x : LineD} {r : Option Addr} {rc : Nat} (he : (cs.drop (i * 7)).take 7 = x.cells r rc) : RowAt w b (o + i * 7) (x.cells r rc) := fun j hj => by
  have := src.rd hp c (i * 7 + j) _ (rows_of (vs := x.cells r rc) he j hj)
  rw [← Nat.add_assoc] at this
  exact this

theorem IndexL_in [Stable Φ] (src : Src [] Φ p L cs) (hc : Rows7 cs L) (hlen : L.length ≤ 1000000) : GivesIn Φ Tryd.prog F.slices_ContainsFunc_api_Line_api_Line #[.slice p L.length cap, .func (.func F.ledger_Ledger_check_1) #[] #[]] (.bool (L.any fun x => !rightR x.row)) := by
  have hidx : GivesIn Φ Tryd.prog F.slices_IndexFunc_api_Line_api_Line #[.slice p L.length cap, .func (.func F.ledger_Ledger_check_1) #[] #[]] (.int .i64 (findI (fun x => !rightR x.row) 0 L)) := by
    refine gives_in (Bslices_IndexFunc_api_Line_api_Line_run p L.length cap F.ledger_Ledger_check_1 #[]) fun W R => ?_
    refine exI_mk (fun n R' Φ' k => ∃ i : Nat, n = i ∧ i ≤ L.length ∧ R' = R ∧ Φ' = Φ ∧ k = L.length - i ∧ findI (fun x : LineD => !rightR x.row) 0 L = findI (fun x : LineD => !rightR x.row) i (L.drop i)) ⟨⟨R, Φ, _, inferInstance, fun w F c => c, 0, rfl, Nat.zero_le _, rfl, rfl, rfl, rfl⟩, ?_⟩
    rintro n R1 Φ1 k _ ⟨i, rfl, hi, rfl, rfl, rfl, hor⟩
    refine Br.intro (fun hlt => ?_) (fun hge => fun w F cx => ⟨?_, cx.left⟩)
    · have hlt : i < L.length := by simpa using hlt
      rw [findI_drop _ L i hlt] at hor
      obtain ⟨b, o, hp⟩ := src.ptr (by omega)
      obtain ⟨r, rc, he, h1, h2, h3⟩ := hc i hlt
      have hh : Has Φ1 (fun M w => Sl M w r L[i].row) := ⟨fun M w h => src_sl src hlt he h⟩
      refine ⟨by omega, ptrK_intro b o hp fun w F cx => ⟨L[i].no, L[i].batch, L[i].time, r, L[i].row.length, rc, L[i].n, L[i].cause, L[i].why, by rw [Int.toNat_natCast]; exact src_at (G := R1 ++ F) src hp cx he, fun w F cx => ⟨by kernel_rfl, (check1_in L[i] r rc).use cx fun w cx => ⟨!rightR L[i].row, rfl, R1, Φ1, inferInstance, cx, Br.intro (fun h => fun w F cx => ⟨?_, cx.left⟩) (fun h => ⟨by unfold I64; omega, R1, Φ1, L.length - (i + 1), inferInstance, fun w F c => c, ⟨i + 1, rfl, hlt, rfl, rfl, rfl, ?_⟩, by omega⟩)⟩⟩⟩⟩
      · rw [hor, if_pos h]
      · rw [hor, if_neg (by rw [h]; simp)]
    · have hge : i = L.length := Nat.le_antisymm hi (by simpa using hge)
      rw [hor, hge, List.drop_length]
      rfl
  refine gives_in (Bslices_ContainsFunc_api_Line_api_Line_run p L.length cap F.ledger_Ledger_check_1 #[]) fun W R => ?_
  exact fun w G cx => hidx.toI cx fun w G cx => ⟨by rw [findI_any], cx.left⟩

set_option maxHeartbeats 4000000 in
theorem Check_q [Stable Φ] {no mark : Int} [hT : Has Φ TabI] (hq : LedQ q st) (hs : LedS st) (hk : CntOk st) (src : Src [] Φ p L cs) (hlen : L.length ≤ 1000000) (hrow : ∀ x ∈ L, x.row.length ≤ 1000000) (htx : ∀ x ∈ L, ∀ v ∈ x.row, v.text.size ≤ 10000) :
    GivesQ (LedO q st) Φ Tryd.prog F.ledger_Ledger_check #[led q, .int .i64 no, .int .i64 mark, .slice p L.length cap] (.int .i64 (checkP st no mark L)) := by
  have hsl := hs.lines
  refine gives_q (Bledger_Ledger_check_run q.lb 0 no mark p L.length cap) fun W R => fun w G cx => ?_
  have hc : Rows7 cs L := rows7 (src.el _ _ cx.phi)
  refine (Last_q hq hs).toI cx ?_
  clear cx
  unfold checkP
  refine Br.intro (fun h => fun w G cx => ⟨by rw [if_pos (of_decide_eq_true h)], cx.left⟩) (fun h => ?_)
  rw [if_neg (of_decide_eq_false h)]
  refine fun w G cx => (Mark_q hq hs).toI cx ?_
  clear cx
  refine Br.intro (fun h => fun w G cx => ⟨by rw [if_pos (of_decide_eq_true h)], cx.left⟩) (fun h => ?_)
  rw [if_neg (of_decide_eq_false h)]
  refine Br.intro (fun h => fun w G cx => ⟨by rw [if_pos (of_decide_eq_true h)], cx.left⟩) (fun h => ?_)
  rw [if_neg (of_decide_eq_false h)]
  have hsrcR : ∀ {i : Nat} (hi : i < L.length) {r : Option Addr} {rc : Nat}, (cs.drop (i * 7)).take 7 = L[i].cells r rc → Has Φ (fun M w => Sl M w r L[i].row) := fun {i} hi {r rc} he => ⟨fun M w h => src_sl src hi he h⟩
  obtain ⟨lm, hlm⟩ : ∃ lm, (lastP st).mark = lm := ⟨_, rfl⟩
  rw [hlm]
  refine exI_mk (fun iI R' Φ' k => ∃ i : Nat, iI = i ∧ i ≤ L.length ∧ R' = LedO q st ++ R ∧ Φ' = Φ ∧ k = L.length - i ∧ okFrom no mark lm (st.lines.length + 1) none L = okFrom no mark lm (((st.lines.length : Int) + 1) + i) (prevAt L i) (L.drop i)) ⟨⟨_, _, _, inferInstance, fun w G cx => cx, 0, rfl, Nat.zero_le _, rfl, rfl, rfl, ?_⟩, ?_⟩
  · rw [Int.natCast_zero, Int.add_zero]; rfl
  rintro iI R1 Φ1 k _ ⟨i, rfl, hi, rfl, rfl, rfl, hor⟩
  refine Br.intro (fun hlt => ?_) (fun hge => fun w G cx => ?_)
  · have hlt : i < L.length := by have := of_decide_eq_true hlt; omega
    obtain ⟨b, o, hp⟩ := src.ptr (by omega)
    obtain ⟨r, rc, he, h1, h2, h3⟩ := hc i hlt
    have hhi := hsrcR hlt he
    rw [okFrom_drop hlt] at hor
    have bad : (okLine (((st.lines.length : Int) + 1) + i) no mark lm L[i] && ascO (prevAt L i) L[i]) = false → okFrom no mark lm (st.lines.length + 1) none L = false := fun h => by rw [hor, h, Bool.false_and]
    have stop : okFrom no mark lm (st.lines.length + 1) none L = false → ∀ {w : World} {G : List Own}, Ctx W w ((LedO q st ++ R) ++ G) Φ1 → (Value.int .i64 1) = .int .i64 (if okFrom no mark lm (st.lines.length + 1) none L = false then 1 else if (L.any fun x => !rightR x.row) = true then 16 else if L.any (overP st) = true then 7 else 0) ∧ Ctx W w (LedO q st ++ R) Φ1 := fun h {w G} cx => ⟨by rw [if_pos h], cx.left⟩
    refine ⟨by omega, ptrK_intro b o hp fun w G cx => ⟨L[i].no, L[i].batch, L[i].time, r, L[i].row.length, rc, L[i].n, L[i].cause, L[i].why, by rw [Int.toNat_natCast]; exact src_at (G := (LedO q st ++ R) ++ G) src hp cx he, fun _ => ⟨LedO q st ++ R, Φ1, inferInstance, fun w G cx => cx, fun w G cx => (Next_q hs).toI cx ⟨fun w G cx => cx, by unfold I64; omega, ?_⟩⟩⟩⟩
    clear cx
    refine Br.intro (fun h => ⟨LedO q st ++ R, Φ1, inferInstance, fun w G cx => cx, fun w G cx => stop (bad ?_) cx⟩) (fun g1 => ?_)
    · unfold okLine; rw [decide_eq_false (of_decide_eq_true h)]; rfl
    refine Br.intro (fun h => ⟨LedO q st ++ R, Φ1, inferInstance, fun w G cx => cx, fun w G cx => stop (bad ?_) cx⟩) (fun g2 => ?_)
    · unfold okLine; rw [decide_eq_false (of_decide_eq_true h)]; simp
    refine Br.intro (fun h => ⟨LedO q st ++ R, Φ1, inferInstance, fun w G cx => cx, fun w G cx => stop (bad ?_) cx⟩) (fun g3 => ?_)
    · unfold okLine; rw [decide_eq_false (p := 0 ≤ L[i].time) (by have := of_decide_eq_true h; omega)]; simp
    refine Br.intro (fun h => ⟨LedO q st ++ R, Φ1, inferInstance, fun w G cx => cx, fun w G cx => stop (bad ?_) cx⟩) (fun g4 => ?_)
    · unfold okLine; rw [decide_eq_false (p := L[i].time ≤ mark) (by have := of_decide_eq_true h; omega)]; simp
    refine Br.intro (fun h => ⟨LedO q st ++ R, Φ1, inferInstance, fun w G cx => cx, fun w G cx => stop (bad ?_) cx⟩) (fun g5 => ?_)
    · unfold okLine; rw [decide_eq_false (p := L[i].n ≠ 0) (fun e => e (of_decide_eq_true h))]; simp
    have hokl : okLine (((st.lines.length : Int) + 1) + i) no mark lm L[i] = causedP L[i] lm := by
      unfold okLine
      rw [decide_eq_true (Decidable.not_not.1 (of_decide_eq_false g1)), decide_eq_true (Decidable.not_not.1 (of_decide_eq_false g2)), decide_eq_true (p := 0 ≤ L[i].time) (by have := of_decide_eq_false g3; omega), decide_eq_true (p := L[i].time ≤ mark) (by have := of_decide_eq_false g4; omega), decide_eq_true (p := L[i].n ≠ 0) (of_decide_eq_false g5)]
      rfl
    refine fun w G cx => (Mark_q hq hs).toI cx ?_
    clear cx
    rw [hlm]
    refine ⟨fun w G cx => cx, fun w G cx => (caused_in L[i] r rc lm).toB cx ⟨LedO q st ++ R, Φ1, inferInstance, fun w G cx => cx, ?_⟩⟩
    clear cx
    refine Br.intro (fun h => fun w G cx => stop (bad ?_) cx) (fun g6 => ?_)
    · rw [hokl, show causedP L[i] lm = false by simpa using h]; rfl
    have g6 : causedP L[i] lm = true := by simpa using g6
    refine Br.intro (fun g7 => ?_) (fun g7 => ?_)
    · have g7 : 0 < i := by have := of_decide_eq_true g7; omega
      have hi0 : i - 1 < L.length := by omega
      obtain ⟨r0, rc0, he0, k1, k2, k3⟩ := hc (i - 1) (by omega)
      have hh0 := hsrcR (i := i - 1) (by omega) he0
      have hpv : prevAt L i = some (L[i - 1]'hi0) := by unfold prevAt; rw [if_neg (by omega), List.getElem?_eq_getElem (by omega)]
      refine ⟨by unfold I64; omega, by omega, ptrK_intro b o hp ⟨(L[i - 1]'hi0).no, (L[i - 1]'hi0).batch, (L[i - 1]'hi0).time, r0, (L[i - 1]'hi0).row.length, rc0, (L[i - 1]'hi0).n, (L[i - 1]'hi0).cause, (L[i - 1]'hi0).why, fun w G cx => ⟨_, _, _, _, _, _, _, _, _, by rw [show ((i : Int) - 1).toNat = i - 1 by omega]; exact src_at (G := (LedO q st ++ R) ++ G) src hp cx he0, rfl⟩, fun w G cx => (asc_in (L[i - 1]'hi0) L[i] r0 rc0 r rc (hrow _ (List.getElem_mem _))).toB cx ?_⟩⟩
      clear cx
      refine Br.intro (fun h => fun w G cx => stop (bad ?_) cx) (fun g8 => ⟨by unfold I64; omega, _, _, L.length - (i + 1), inferInstance, fun w G cx => cx, ⟨i + 1, rfl, hlt, rfl, rfl, rfl, ?_⟩, by omega⟩)
      · rw [hpv]
        show (_ && ascP _ _) = false
        rw [show ascP (L[i - 1]'hi0) L[i] = false by simpa using h, Bool.and_false]
      · rw [hor, hokl, g6, hpv]
        show (true && ascP _ _ && _) = _
        rw [show ascP (L[i - 1]'hi0) L[i] = true by simpa using g8]
        rfl
    · have g7 : i = 0 := by have := of_decide_eq_false g7; omega
      refine ⟨by unfold I64; omega, _, _, L.length - (i + 1), inferInstance, fun w G cx => cx, ⟨i + 1, rfl, hlt, rfl, rfl, rfl, ?_⟩, by omega⟩
      have hpv : prevAt L i = none := by unfold prevAt; rw [if_pos g7]
      rw [hor, hokl, g6, hpv]
      rfl
  have hge : i = L.length := by have := of_decide_eq_false hge; omega
  subst hge
  rw [List.drop_length] at hor
  have hor : okFrom no mark lm (st.lines.length + 1) none L = true := hor
  rw [if_neg (by rw [hor]; simp)]
  refine (IndexL_in src hc hlen).toB cx ?_
  clear cx
  refine Br.intro (fun h => fun w G cx => ⟨by rw [if_pos h], cx.left⟩) (fun h => ?_)
  rw [if_neg (by rw [h]; simp)]
  refine exI_mk (fun iI R' Φ' k => ∃ i : Nat, iI = i ∧ i ≤ L.length ∧ R' = LedO q st ++ R ∧ Φ' = Φ1 ∧ k = L.length - i ∧ L.any (overP st) = (L.drop i).any (overP st)) ⟨⟨_, _, _, inferInstance, fun w G cx => cx, 0, rfl, Nat.zero_le _, rfl, rfl, rfl, rfl⟩, ?_⟩
  rintro iI R1 Φ2 k _ ⟨i, rfl, hi, rfl, rfl, rfl, hov⟩
  refine Br.intro (fun hlt => ?_) (fun hge => fun w G cx => ⟨?_, cx.left⟩)
  · have hlt : i < L.length := by have := of_decide_eq_true hlt; omega
    obtain ⟨b, o, hp⟩ := src.ptr (by omega)
    obtain ⟨r, rc, he, h1, h2, h3⟩ := hc i hlt
    have hhi := hsrcR hlt he
    rw [List.drop_eq_getElem_cons hlt, List.any_cons] at hov
    obtain ⟨c1, c2⟩ := hk L[i].at
    have hcnt := hq.cnt L[i].at
    refine ⟨by omega, ptrK_intro b o hp fun w G cx => ⟨L[i].no, L[i].batch, L[i].time, r, L[i].row.length, rc, L[i].n, L[i].cause, L[i].why, by rw [Int.toNat_natCast]; exact src_at (G := (LedO q st ++ R) ++ G) src hp cx he, fun _ => ⟨LedO q st ++ R, Φ2, inferInstance, fun w G cx => cx, some q.mb, fun w G cx => ⟨some q.mb, led_cell (i := 2) cx rfl, rfl⟩, fun w G cx => ?_⟩⟩⟩
    refine at_use L[i] r rc (hrow _ (List.getElem_mem _)) (htx _ (List.getElem_mem _)) cx ⟨fun w G cx => cx, fun w G cx => ⟨getM q.es L[i].at, fun w2 hw2 => run_lookupM keyTy (by rw [hw2]; exact led_map cx) L[i].at, fun w G cx => ?_⟩⟩
    clear cx
    rw [hcnt]
    refine ⟨by unfold I64; omega, fun _ => by unfold I64; omega, ?_⟩
    have hoi : (decide (L[i].n < 0 - cntL st.lines L[i].at) || decide (1152921504606846976 - cntL st.lines L[i].at < L[i].n)) = overP st L[i] := rfl
    rw [hoi]
    refine Br.intro (fun h => fun w G cx => ⟨by rw [hov, h]; rfl, cx.left⟩) (fun h => ⟨by unfold I64; omega, _, _, L.length - (i + 1), inferInstance, fun w G cx => cx, ⟨i + 1, rfl, hlt, rfl, rfl, rfl, by rw [hov, h]; rfl⟩, by omega⟩)
  · have hge : i = L.length := by have := of_decide_eq_false hge; omega
    subst hge
    rw [List.drop_length] at hov
    rw [hov]; rfl
end
end Go.Proofs.YtbkpfhhhbhaecaaDoor
end

/-
  The reader of encodings in plain Lean (parts of the texts Se and Sf of the seat of DeltaBytes); rows with one encoding are one.
-/
section
set_option linter.unusedVariables false
set_option linter.unusedSimpArgs false
namespace Go.Proofs.YtbkpfhhhbhaecaaDoor
open Go.Vc


def bs (l : List UInt8) : ByteArray := ⟨l.toArray⟩
/-- what is left, and whether it has failed -/
abbrev RdS := List UInt8 × Bool
def numP (e : UInt8) (least : Int) (l : List UInt8) : Option (Int × List UInt8) :=
  let i := Lib.indexByte (l.take 21) e
  if i < 0 then none else match Lib.atoiAll (l.take i.toNat) with
    | .ok n => if Lib.itoa n = l.take i.toNat ∧ least ≤ n then some (n, l.drop (i.toNat + 1)) else none
    | _ => none
def stepN (e : UInt8) (least : Int) (st : RdS) : Int × RdS := match numP e least st.1 with
  | some (n, r) => (n, (r, st.2))
  | none => (0, ([], true))
def stepC (c : UInt8) (st : RdS) : RdS := match st.1 with
  | [] => ([], true)
  | x :: r => if x = c then (r, st.2) else ([], true)
def stepT (st : RdS) : ByteArray × RdS :=
  let a := stepN 58 0 st
  if (a.2.1.length : Int) < a.1 then (ByteArray.mk #[], ([], true)) else
    let c := stepC 44 (a.2.1.drop a.1.toNat, a.2.2)
    (if c.2 then ByteArray.mk #[] else bs (a.2.1.take a.1.toNat), c)

theorem at_of_split {l r : List UInt8} {i : Nat} {e : UInt8} (h : l.take i ++ e :: r = l) (hi : i < l.length) : l[i]? = some e := by
  have hl : (l.take i).length = i := by rw [List.length_take]; omega
  rw [← h, List.getElem?_append_right (by omega), hl, Nat.sub_self]
  rfl
theorem index_neg : ∀ (l : List UInt8) (c : UInt8), -1 ≤ Lib.indexByte l c ∧ (Lib.indexByte l c = -1 ∨ (0 ≤ Lib.indexByte l c ∧ Lib.indexByte l c < l.length ∧ l.take (Lib.indexByte l c).toNat ++ c :: l.drop ((Lib.indexByte l c).toNat + 1) = l ∧ c ∉ l.take (Lib.indexByte l c).toNat))
  | [], c => by simp [Lib.indexByte]
  | b :: l, c => by
    have ih := index_neg l c
    unfold Lib.indexByte
    by_cases hb : (b == c) = true
    · rw [if_pos hb]
      have : b = c := by simpa using hb
      subst this
      refine ⟨by omega, .inr ⟨by omega, by simp, by simp, by simp⟩⟩
    · rw [if_neg hb]
      by_cases h1 : (Lib.indexByte l c == -1) = true
      · rw [if_pos h1]; exact ⟨by omega, .inl rfl⟩
      · rw [if_neg h1]
        have h1 : Lib.indexByte l c ≠ -1 := by simpa using h1
        obtain ⟨h2, h3⟩ := ih
        rcases h3 with h3 | ⟨h3, h4, h5, h6⟩
        · exact absurd h3 h1
        · have e : (Lib.indexByte l c + 1).toNat = (Lib.indexByte l c).toNat + 1 := by omega
          refine ⟨by omega, .inr ⟨by omega, by simp; omega, ?_, ?_⟩⟩
          · rw [e, List.take_succ_cons, List.drop_succ_cons, List.cons_append, h5]
          · rw [e, List.take_succ_cons, List.mem_cons, not_or]
            exact ⟨fun e => hb (by simp [e]), h6⟩

theorem index_least {l : List UInt8} {c : UInt8} {a r : List UInt8} (hl : l = a ++ c :: r) (hc : c ∉ a) : Lib.indexByte l c = a.length := by
  subst hl
  induction a with
  | nil => simp [Lib.indexByte]
  | cons b a ih =>
    have hb : b ≠ c := fun e => hc (by simp [e])
    have ih := ih fun h => hc (by simp [h])
    rw [List.cons_append]
    unfold Lib.indexByte
    rw [if_neg (by simpa using hb), if_neg (by rw [ih]; simp), ih]
    simp

/-- digits and the sign -/
theorem digits_chars : ∀ (u : Nat), ∀ c ∈ Lib.decDigits u, 48 ≤ c.toNat ∧ c.toNat ≤ 57 := by
  intro u
  induction u using Nat.strongRecOn with
  | _ u ih =>
    intro c hc
    rw [Lib.decDigits] at hc
    split at hc
    · rename_i h
      rw [List.mem_singleton] at hc
      subst hc
      have : (UInt8.ofNat (48 + u)).toNat = 48 + u := by simp; omega
      omega
    · rename_i h
      rcases List.mem_append.1 hc with hc | hc
      · exact ih (u / 10) (by omega) c hc
      · rw [List.mem_singleton] at hc
        subst hc
        have : (UInt8.ofNat (48 + u % 10)).toNat = 48 + u % 10 := by simp; omega
        omega
theorem itoa_chars {n : Int} {c : UInt8} (h : c ∈ Lib.itoa n) : c.toNat = 45 ∨ 48 ≤ c.toNat ∧ c.toNat ≤ 57 := by
  unfold Lib.itoa at h
  split at h
  · rcases List.mem_cons.1 h with rfl | h
    · left; rfl
    · right; exact digits_chars _ c h
  · right; exact digits_chars _ c h

/-! ### the decimal form, read back -/
def digV (acc : Nat) (l : List UInt8) : Nat := l.foldl (fun a c => a * 10 + (c.toNat - 48)) acc
theorem digV_snoc (acc : Nat) (l : List UInt8) (c : UInt8) : digV acc (l ++ [c]) = digV acc l * 10 + (c.toNat - 48) := by simp [digV]
theorem digV_dec : ∀ u : Nat, digV 0 (Lib.decDigits u) = u := by
  intro u
  induction u using Nat.strongRecOn with
  | _ u ih =>
    rw [Lib.decDigits]
    split
    · rename_i h
      show 0 * 10 + ((UInt8.ofNat (48 + u)).toNat - 48) = u
      have : (UInt8.ofNat (48 + u)).toNat = 48 + u := by simp; omega
      omega
    · rename_i h
      rw [digV_snoc, ih (u / 10) (by omega)]
      have : (UInt8.ofNat (48 + u % 10)).toNat = 48 + u % 10 := by simp; omega
      omega
theorem digV_mono : ∀ (l : List UInt8) (acc : Nat), acc ≤ digV acc l
  | [], acc => Nat.le_refl _
  | c :: l, acc => by
    have := digV_mono l (acc * 10 + (c.toNat - 48))
    show acc ≤ digV (acc * 10 + (c.toNat - 48)) l
    omega
theorem parse_dig : ∀ (l : List UInt8) (acc : Nat), (∀ c ∈ l, 48 ≤ c.toNat ∧ c.toNat ≤ 57) → digV acc l < 18446744073709551616 → Lib.parseUint10 acc l = .ok (digV acc l)
  | [], acc, _, _ => rfl
  | c :: l, acc, hc, h => by
    have h0 := hc c (by simp)
    have hm := digV_mono l (acc * 10 + (c.toNat - 48))
    have e : digV acc (c :: l) = digV (acc * 10 + (c.toNat - 48)) l := rfl
    rw [e] at h ⊢
    unfold Lib.parseUint10
    rw [if_pos h0, if_neg (by omega), if_neg (by omega)]
    exact parse_dig l _ (fun d hd => hc d (by simp [hd])) h

theorem dec_ne (u : Nat) : Lib.decDigits u ≠ [] := by
  intro e
  have h1 := Lib.decDigits_length u
  have h2 := Lib.nDigits_pos u
  rw [e] at h1
  simp at h1
  omega
theorem mag_dec {u : Nat} (h : u < 18446744073709551616) : Lib.parseMag (Lib.decDigits u) = .ok u := by
  unfold Lib.parseMag
  rw [if_neg (dec_ne u), parse_dig _ 0 (digits_chars u) (by rw [digV_dec]; exact h), digV_dec]

theorem atoi_itoa {n : Int} (h : I64 n) : Lib.atoiAll (Lib.itoa n) = .ok n := by
  unfold I64 at h
  unfold Lib.itoa
  split
  · rename_i hn
    have hm := mag_dec (u := n.natAbs) (by omega)
    unfold Lib.atoiAll
    simp only
    rw [if_pos (.inr rfl), hm]
    simp only
    have e45 : (45 : UInt8).toNat = 45 := rfl
    rw [if_neg (by intro h; exact h.1 e45), if_neg (by intro h; omega), if_pos e45]
    congr 1
    omega
  · rename_i hn
    have hm := mag_dec (u := n.toNat) (by omega)
    obtain ⟨c, r, hcr⟩ : ∃ c r, Lib.decDigits n.toNat = c :: r := by
      cases hd : Lib.decDigits n.toNat with
      | nil => exact absurd hd (dec_ne _)
      | cons c r => exact ⟨c, r, rfl⟩
    have h0 := digits_chars n.toNat c (by rw [hcr]; simp)
    rw [hcr] at hm ⊢
    unfold Lib.atoiAll
    simp only
    rw [if_neg (by omega), hm]
    simp only
    rw [if_neg (by omega), if_neg (by omega), if_neg (by omega)]
    congr 1
    omega

/-- what a number's reading says -/
theorem numP_iff {e : UInt8} (he : e.toNat = 58 ∨ e.toNat = 59 ∨ e.toNat = 91) {least : Int} {l : List UInt8} {n : Int} {r : List UInt8} : numP e least l = some (n, r) ↔ (I64 n ∧ least ≤ n) ∧ l = Lib.itoa n ++ e :: r := by
  have hne : ∀ n : Int, e ∉ Lib.itoa n := fun n h => by have := itoa_chars h; omega
  constructor
  · intro h
    unfold numP at h
    simp only at h
    split at h
    · cases h
    · rename_i hi
      split at h
      · rename_i m hm
        split at h
        · rename_i hc
          cases h
          have hb := Lib.atoiAll_bounds hm
          obtain ⟨_, h3⟩ := index_neg (l.take 21) e
          rcases h3 with h3 | ⟨h3, h4, h5, h6⟩
          · omega
          · refine ⟨⟨by unfold I64; omega, hc.2⟩, ?_⟩
            rw [hc.1]
            have hlt : (Lib.indexByte (l.take 21) e).toNat < (l.take 21).length := by omega
            have hlt2 : (Lib.indexByte (l.take 21) e).toNat < l.length := by rw [List.length_take] at hlt; omega
            have hg : l[(Lib.indexByte (l.take 21) e).toNat] = e := by
              have h7 : (l.take 21)[(Lib.indexByte (l.take 21) e).toNat]? = some e := at_of_split h5 (by omega)
              rw [List.getElem?_take_of_lt (by rw [List.length_take] at hlt; omega), List.getElem?_eq_getElem hlt2] at h7
              exact Option.some.inj h7
            conv => lhs; rw [← List.take_append_drop (Lib.indexByte (l.take 21) e).toNat l, List.drop_eq_getElem_cons hlt2, hg]
        · cases h
      · cases h
  · rintro ⟨⟨h1, h2⟩, rfl⟩
    have hlen := itoa_len h1
    have ht : (Lib.itoa n ++ e :: r).take 21 = Lib.itoa n ++ e :: r.take (20 - (Lib.itoa n).length) := by
      rw [List.take_append, List.take_of_length_le (by omega)]
      congr 1
      rw [show 21 - (Lib.itoa n).length = (20 - (Lib.itoa n).length) + 1 by omega, List.take_succ_cons]
    have hi := index_least ht (hne n)
    unfold numP
    simp only
    rw [hi, if_neg (by omega), Int.toNat_natCast, List.take_left', atoi_itoa h1]
    · simp only
      rw [if_pos ⟨by simp, h2⟩]
      congr 2
      rw [List.drop_append, List.drop_of_length_le (by omega), List.nil_append, show (Lib.itoa n).length + 1 - (Lib.itoa n).length = 1 by omega]
      rfl
    · rfl


theorem stepN_some {st : RdS} {e : UInt8} {least n : Int} {r : List UInt8} (h : numP e least st.1 = some (n, r)) : stepN e least st = (n, (r, st.2)) := by unfold stepN; rw [h]

def rdInt (st : RdS) : Int × RdS := stepN 59 (-9223372036854775808) st
def rdNat (st : RdS) : Int × RdS := stepN 59 0 st
def rdDone (st : RdS) : Bool := !st.2 && decide (st.1 = [])

def stepV (st : RdS) : ValD × RdS := (⟨(rdInt st).1, (rdInt (rdInt st).2).1, (stepT (rdInt (rdInt st).2).2).1⟩, (stepT (rdInt (rdInt st).2).2).2)
def rowLoop : Nat → RdS → List ValD → Option (List ValD × RdS)
  | 0, st, acc => some (acc, st)
  | n + 1, st, acc => if st.1 = [] then none else rowLoop n (stepV st).2 (acc ++ [(stepV st).1])
def readRowP (l : List UInt8) : Option (List ValD) := match rowLoop (rdNat (l, false)).1.toNat (rdNat (l, false)).2 [] with
  | some (acc, st) => if rdDone st then some acc else none
  | none => none

theorem num_read {e : UInt8} (he : e.toNat = 58 ∨ e.toNat = 59 ∨ e.toNat = 91) {least n : Int} {r : List UInt8} {bad : Bool} (h : I64 n) (h2 : least ≤ n) : stepN e least (Lib.itoa n ++ e :: r, bad) = (n, (r, bad)) :=
  stepN_some (st := (Lib.itoa n ++ e :: r, bad)) ((numP_iff he).2 ⟨⟨h, h2⟩, rfl⟩)
theorem intB_list (n : Int) : (intB n).data.toList = Lib.itoa n ++ [59] := by
  unfold intB numB
  rw [ByteArray.data_append, Array.toList_append]
theorem int_read {n : Int} {r : List UInt8} {bad : Bool} (h : I64 n) : rdInt ((intB n).data.toList ++ r, bad) = (n, (r, bad)) := by
  rw [intB_list, List.append_assoc]
  exact num_read (.inr (.inl rfl)) h h.1
theorem nat_read {n : Nat} {r : List UInt8} {bad : Bool} (h : (n : Int) ≤ 9223372036854775807) : rdNat ((natB n).data.toList ++ r, bad) = ((n : Int), (r, bad)) := by
  unfold natB
  rw [if_neg (by omega), intB_list, List.append_assoc]
  exact num_read (.inr (.inl rfl)) (by unfold I64; omega) (by omega)
theorem textB_list (s : ByteArray) : (textB s).data.toList = Lib.itoa s.size ++ 58 :: (s.data.toList ++ [44]) := by
  unfold textB numB
  simp [ByteArray.data_append]
theorem text_read {s : ByteArray} {r : List UInt8} (h : s.size ≤ 9223372036854775807) : stepT ((textB s).data.toList ++ r, false) = (s, (r, false)) := by
  have e1 : stepN 58 0 ((textB s).data.toList ++ r, false) = ((s.size : Int), (s.data.toList ++ 44 :: r, false)) := by
    rw [textB_list, List.append_assoc, List.cons_append, List.append_assoc]
    exact num_read (.inl rfl) (by unfold I64; omega) (by omega)
  unfold stepT
  simp only [e1]
  have hl : s.data.toList.length = s.size := list_size s
  rw [if_neg (by rw [List.length_append, List.length_cons, hl]; omega), Int.toNat_natCast, List.drop_left' hl, List.take_left' hl]
  rfl
theorem val_read {v : ValD} {r : List UInt8} (h1 : I64 v.kind) (h2 : I64 v.num) (h3 : v.text.size ≤ 9223372036854775807) : stepV ((valB v).data.toList ++ r, false) = (v, (r, false)) := by
  have e : (valB v).data.toList ++ r = (intB v.kind).data.toList ++ ((intB v.num).data.toList ++ ((textB v.text).data.toList ++ r)) := by
    unfold valB
    simp [ByteArray.data_append]
  unfold stepV
  rw [e, int_read h1]
  simp only
  rw [int_read h2]
  simp only
  rw [text_read h3]
theorem valB_pos (v : ValD) (h : I64 v.kind) : (valB v).data.toList ≠ [] := fun e => by
  have h1 := intB_size h
  have h2 := congrArg List.length e
  rw [list_size] at h2
  unfold valB at h2
  rw [size_app, size_app, List.length_nil] at h2
  omega
def FitV (v : ValD) : Prop := (I64 v.kind ∧ I64 v.num) ∧ v.text.size ≤ 9223372036854775807
theorem vals_read : ∀ (r : List ValD) (acc : List ValD) (t : List UInt8), (∀ v ∈ r, FitV v) → rowLoop r.length (valsL r ++ t, false) acc = some (acc ++ r, (t, false))
  | [], acc, t, _ => by simp [rowLoop, valsL]
  | v :: r, acc, t, h => by
    obtain ⟨⟨h1, h2⟩, h3⟩ := h v (by simp)
    have e : valsL (v :: r) ++ t = (valB v).data.toList ++ (valsL r ++ t) := by simp [valsL]
    have hp := valB_pos v h1
    rw [e, List.length_cons, rowLoop, if_neg (by intro e; exact hp (List.append_eq_nil_iff.1 e).1), val_read h1 h2 h3]
    simp only
    rw [vals_read r _ t fun u hu => h u (by simp [hu]), List.append_assoc]
    rfl
theorem row_read {r : List ValD} (h : ∀ v ∈ r, FitV v) (hl : r.length ≤ 9223372036854775807) : readRowP (rowL r) = some r := by
  have h1 := vals_read r [] [] h
  rw [List.append_nil, List.nil_append] at h1
  unfold readRowP rowL
  rw [nat_read (by omega)]
  simp only [Int.toNat_natCast]
  rw [h1]
  rfl


theorem rowL_inj {r s : List ValD} (hr : ∀ v ∈ r, FitV v) (hs : ∀ v ∈ s, FitV v) (h1 : r.length ≤ 9223372036854775807) (h2 : s.length ≤ 9223372036854775807) (h : rowB r = rowB s) : r = s := by
  have e1 := row_read hr h1
  have e2 := row_read hs h2
  have h : rowL r = rowL s := by
    have := congrArg (fun x : ByteArray => x.data.toList) h
    exact this
  rw [h, e2] at e1
  exact (Option.some.inj e1).symm
end Go.Proofs.YtbkpfhhhbhaecaaDoor
end

/-
  Batches that a ledger accepts, in plain Lean.
-/
section
set_option linter.unusedVariables false
set_option linter.unusedSimpArgs false
namespace Go.Proofs.YtbkpfhhhbhaecaaDoor
open Go.Vc


abbrev LineD.key (x : LineD) : Key := x.d.key
structure AccB (st : LedD) (no mark : Int) (L : List LineD) : Prop where
  gno : (lastP st).no < no
  gmark : (lastP st).mark ≤ mark
  most : mark ≤ 1099511627776
  ok : okFrom no mark (lastP st).mark (st.lines.length + 1) none L = true
  right : ∀ x ∈ L, rightR x.row = true
  over : ∀ x ∈ L, overP st x = false

theorem check_ok {st : LedD} {no mark : Int} {L : List LineD} (h : checkP st no mark L = 0) : AccB st no mark L := by
  unfold checkP at h
  split at h
  · cases h
  · rename_i h1
    split at h
    · cases h
    · rename_i h2
      split at h
      · cases h
      · rename_i h3
        split at h
        · cases h
        · rename_i h4
          split at h
          · cases h
          · rename_i h5
            split at h
            · cases h
            · rename_i h6
              refine ⟨by omega, by omega, by omega, by simpa using h4, fun x hx => ?_, fun x hx => ?_⟩
              · have h5 : (L.any fun x => !rightR x.row) = false := by simpa using h5
                have := (List.any_eq_false.1 h5) x hx
                simpa using this
              · have h6 : L.any (overP st) = false := by simpa using h6
                have := (List.any_eq_false.1 h6) x hx
                simpa using this

theorem asc_key {x y : LineD} (h : ascP x y = true) : cmpK x.key y.key < 0 := by
  unfold ascP at h
  show lex cmpI cmpR (x.time, x.row) (y.time, y.row) < 0
  unfold lex cmpI
  simp only
  rw [Bool.or_eq_true, Bool.and_eq_true] at h
  rcases h with h | ⟨h1, h2⟩
  · have h := of_decide_eq_true h
    rw [if_pos h, if_pos (by decide)]; decide
  · have h1 := of_decide_eq_true h1
    have h2 := of_decide_eq_true h2
    rw [if_neg (show ¬ x.time < y.time by omega), if_neg (show ¬ y.time < x.time by omega)]
    simpa using h2
theorem okFrom_asc {no mark lm : Int} : ∀ {L : List LineD} {nx : Int} {p : LineD}, okFrom no mark lm nx (some p) L = true → (∀ y ∈ L, cmpK p.key y.key < 0) ∧ L.Pairwise fun x y => cmpK x.key y.key < 0
  | [], _, _, _ => ⟨by simp, List.Pairwise.nil⟩
  | x :: L, nx, p, h => by
    unfold okFrom at h
    rw [Bool.and_eq_true, Bool.and_eq_true] at h
    obtain ⟨⟨_, h2⟩, h3⟩ := h
    obtain ⟨g1, g2⟩ := okFrom_asc h3
    have h2 := asc_key h2
    refine ⟨fun y hy => ?_, List.pairwise_cons.2 ⟨g1, g2⟩⟩
    rcases List.mem_cons.1 hy with e | hy
    · rw [e]; exact h2
    · exact cmpK_cmp.trans _ _ _ h2 (g1 y hy)
theorem okFrom_pair {no mark lm nx : Int} : ∀ {L : List LineD}, okFrom no mark lm nx none L = true → L.Pairwise fun x y => cmpK x.key y.key < 0
  | [], _ => List.Pairwise.nil
  | x :: L, h => by
    unfold okFrom at h
    rw [Bool.and_eq_true, Bool.and_eq_true] at h
    obtain ⟨g1, g2⟩ := okFrom_asc h.2
    exact List.pairwise_cons.2 ⟨g1, g2⟩
theorem okFrom_each {no mark lm : Int} : ∀ {L : List LineD} {nx : Int} {pv : Option LineD}, okFrom no mark lm nx pv L = true → ∀ i (h : i < L.length), okLine (nx + i) no mark lm L[i] = true
  | [], _, _, _, i, h => by simp at h
  | x :: L, nx, pv, h, i, hi => by
    unfold okFrom at h
    rw [Bool.and_eq_true, Bool.and_eq_true] at h
    cases i with
    | zero => rw [Int.natCast_zero, Int.add_zero]; exact h.1.1
    | succ i =>
      have := okFrom_each h.2 i (by simpa using hi)
      rw [show nx + ((i + 1 : Nat) : Int) = nx + 1 + i by omega]
      exact this

structure LineOk (nx no mark lm : Int) (x : LineD) : Prop where
  gno : x.no = nx
  batch : x.batch = no
  t0 : 0 ≤ x.time
  t1 : x.time ≤ mark
  nz : x.n ≠ 0
  caused : causedP x lm = true
theorem okLine_out {nx no mark lm : Int} {x : LineD} (h : okLine nx no mark lm x = true) : LineOk nx no mark lm x := by
  unfold okLine at h
  simp only [Bool.and_eq_true, decide_eq_true_eq] at h
  obtain ⟨⟨⟨⟨⟨h1, h2⟩, h3⟩, h4⟩, h5⟩, h6⟩ := h
  exact ⟨h1, h2, h3, h4, h5, h6⟩
theorem AccB.at {st : LedD} {no mark : Int} {L : List LineD} (h : AccB st no mark L) (i : Nat) (hi : i < L.length) : LineOk (((st.lines.length : Int) + 1) + i) no mark (lastP st).mark L[i] := okLine_out (okFrom_each h.ok i hi)
theorem AccB.mem {st : LedD} {no mark : Int} {L : List LineD} (h : AccB st no mark L) {x : LineD} (hx : x ∈ L) : ∃ nx, LineOk nx no mark (lastP st).mark x := by
  obtain ⟨i, hi, rfl⟩ := List.getElem_of_mem hx
  exact ⟨_, h.at i hi⟩
theorem caused_cause {x : LineD} {m : Int} (h : causedP x m = true) : x.cause = 0 ∨ x.cause = 1 ∨ x.cause = 2 := by
  unfold causedP at h
  split at h
  · omega
  · split at h
    · omega
    · split at h
      · omega
      · cases h

/-! ### counts -/
def RowsFit (L : List LineD) : Prop := ∀ x ∈ L, ∀ v ∈ x.row, FitV v
theorem right_len {r : List ValD} (h : rightR r = true) : r.length ≤ 12 := by
  unfold rightR at h
  rw [Bool.and_eq_true] at h
  have := of_decide_eq_true h.1
  omega
theorem key_of_at {x y : LineD} (hx : ∀ v ∈ x.row, FitV v) (hy : ∀ v ∈ y.row, FitV v) (h1 : x.row.length ≤ 1000000) (h2 : y.row.length ≤ 1000000) (h : x.at = y.at) : x.key = y.key := by
  have e1 : x.time = y.time := congrArg Prod.fst h
  have e2 : rowB x.row = rowB y.row := congrArg Prod.snd h
  have e3 := rowL_inj hx hy (by omega) (by omega) e2
  show (x.time, x.row) = (y.time, y.row)
  rw [e1, e3]
theorem cnt_none {k : LKey} : ∀ {l : List LineD}, (∀ x ∈ l, x.at ≠ k) → cntL l k = 0
  | [], _ => rfl
  | x :: l, h => by
    unfold cntL
    rw [if_neg (h x (by simp)), cnt_none fun y hy => h y (by simp [hy])]; rfl
theorem cnt_one : ∀ {l : List LineD}, l.Pairwise (fun x y => x.at ≠ y.at) → ∀ i (h : i < l.length), cntL l l[i].at = l[i].n
  | [], _, i, h => by simp at h
  | x :: l, hp, i, h => by
    obtain ⟨h1, h2⟩ := List.pairwise_cons.1 hp
    unfold cntL
    cases i with
    | zero =>
      rw [List.getElem_cons_zero, if_pos rfl, cnt_none fun y hy => (h1 y hy).symm]; omega
    | succ i =>
      rw [List.getElem_cons_succ, if_neg (h1 _ (List.getElem_mem _)), cnt_one h2 i (by simpa using h)]; omega
theorem cnt_step {l : List LineD} {i : Nat} (h : i < l.length) (k : LKey) : cntL (l.take (i + 1)) k = cntL (l.take i) k + if l[i].at = k then l[i].n else 0 := by
  rw [List.take_succ_eq_append_getElem h, cntL_app]
  simp [cntL]
theorem caus_app (a b : List LineD) (k : Int) : caus (a ++ b) k = caus a k + caus b k := by unfold caus; rw [List.countP_append]; omega
theorem caus_step {l : List LineD} {i : Nat} (h : i < l.length) (k : Int) : caus (l.take (i + 1)) k = caus (l.take i) k + if l[i].cause = k then 1 else 0 := by
  rw [List.take_succ_eq_append_getElem h, caus_app]
  congr 1
  unfold caus
  rw [List.countP_cons, List.countP_nil]
  split <;> rename_i h2
  · rw [if_pos (by simpa using h2)]; rfl
  · rw [if_neg (by simpa using h2)]; rfl
theorem caus_bd (l : List LineD) (k : Int) : 0 ≤ caus l k ∧ caus l k ≤ l.length := by
  unfold caus
  have := List.countP_le_length (p := fun x : LineD => decide (x.cause = k)) (l := l)
  omega

theorem AccB.apart {st : LedD} {no mark : Int} {L : List LineD} (h : AccB st no mark L) (hf : RowsFit L) : L.Pairwise fun x y => x.at ≠ y.at := by
  have hp := okFrom_pair h.ok
  refine hp.imp_of_mem fun {x y} hx hy hlt e => ?_
  have hk := key_of_at (hf x hx) (hf y hy) (by have := right_len (h.right x hx); omega) (by have := right_len (h.right y hy); omega) e
  rw [hk, cmpK_cmp.refl] at hlt
  omega
theorem AccB.zero {st : LedD} {no mark : Int} {L : List LineD} (h : AccB st no mark L) (hf : RowsFit L) {i : Nat} (hi : i < L.length) : cntL (L.take i) L[i].at = 0 := by
  have hp := h.apart hf
  refine cnt_none fun x hx => ?_
  obtain ⟨j, hj, rfl⟩ := List.getElem_of_mem hx
  rw [List.length_take] at hj
  rw [List.getElem_take]
  exact List.pairwise_iff_getElem.1 hp j i (by omega) hi (by omega)
theorem AccB.room {st : LedD} {no mark : Int} {L : List LineD} (h : AccB st no mark L) {x : LineD} (hx : x ∈ L) : 0 ≤ cntL st.lines x.at + x.n ∧ cntL st.lines x.at + x.n ≤ 1152921504606846976 := by
  have := h.over x hx
  unfold overP at this
  rw [Bool.or_eq_false_iff] at this
  have h1 := of_decide_eq_false this.1
  have h2 := of_decide_eq_false this.2
  omega

/-- a ledger, one batch later -/
def appP (st : LedD) (no mark : Int) (L : List LineD) : LedD := ⟨st.lines ++ L, st.bats ++ [⟨no, mark, (st.lines ++ L).length⟩]⟩

theorem AccB.cnt {st : LedD} {no mark : Int} {L : List LineD} (h : AccB st no mark L) (hf : RowsFit L) (hc : CntOk st) : CntOk (appP st no mark L) := fun k => by
  show 0 ≤ cntL (st.lines ++ L) k ∧ cntL (st.lines ++ L) k ≤ _
  rw [cntL_app]
  by_cases hk : ∃ x ∈ L, x.at = k
  · obtain ⟨x, hx, rfl⟩ := hk
    have h1 := h.room hx
    obtain ⟨i, hi, rfl⟩ := List.getElem_of_mem hx
    rw [cnt_one (h.apart hf) i hi]
    exact h1
  · rw [cnt_none fun x hx e => hk ⟨x, hx, e⟩, Int.add_zero]
    exact hc k
end Go.Proofs.YtbkpfhhhbhaecaaDoor
end

/-
  Append, walked; a new ledger.
-/
section
set_option linter.unusedVariables false
set_option linter.unusedSimpArgs false
namespace Go.Proofs.YtbkpfhhhbhaecaaDoor
open Go.Vc


/-- the map's value at a key, while nobody writes the map -/
def MapV (mb : Nat) (k : LKey) (n : Int) : PW := fun M w => mb ∉ M ∧ ∃ es clk, w.heap[mb]? = some (mObj es clk) ∧ getM es k = n
instance instStableMapV (mb : Nat) (k : LKey) (n : Int) : Stable (MapV mb k n) := ⟨fun {M M' w w'} hs h => by
  obtain ⟨h1, es, clk, h2, h3⟩ := h
  have hlt : mb < w.heap.size := (Array.getElem?_eq_some_iff.1 h2).1
  refine ⟨fun hm => ?_, es, clk, (hs.chg.block mb hlt h1).trans h2, h3⟩
  rcases hs.sub mb hm with h | h
  · exact h1 h
  · omega⟩

section
variable {Φ : PW} {q : LP} {st : LedD} {W w : World} {R S G : List Own} {p : Option Addr} {cap : Nat} {L : List LineD} {cs : List Value}

abbrev LedXB (q : LP) (st : LedD) (c0 c1 c2 : Int) : List Value := [.slice q.lp st.lines.length q.lc, .slice q.bp st.bats.length q.bc, .map (some q.mb), .int .i64 c0, .int .i64 c1, .int .i64 c2]
abbrev LedX (q : LP) (st : LedD) (c0 c1 c2 : Int) (es : List MEnt) (clk : Nat) : List Own := [.blk q.lb (LedXB q st c0 c1 c2) 117, .buf q.lp st.lines.length q.lc q.cs 81 7, .buf q.bp st.bats.length q.bc (batCells st.bats) 120 3, .obj q.mb (mObj es clk)]

theorem ledx_map {c0 c1 c2 : Int} {es : List MEnt} {clk : Nat} (cx : Ctx W w ((LedX q st c0 c1 c2 es clk ++ R) ++ G) Φ) : w.heap[q.mb]? = some (mObj es clk) := cx.own (.obj q.mb (mObj es clk)) (by simp)
theorem ledx_put [Stable Φ] {c0 c1 c2 : Int} {es : List MEnt} {clk : Nat} (cx : Ctx W w ((LedX q st c0 c1 c2 es clk ++ R) ++ G) Φ) (es1 : List MEnt) (clk1 : Nat) : Ctx W (setB w q.mb (mObj es1 clk1)) ((LedX q st c0 c1 c2 es1 clk1 ++ R) ++ G) Φ := cx.putObj 3 (mObj es1 clk1) rfl
/-- the block and the map's value at a key -/
theorem ledx_val [Stable Φ] {c0 c1 c2 : Int} {es : List MEnt} {clk : Nat} (cx : Ctx W w ((LedX q st c0 c1 c2 es clk ++ R) ++ G) Φ) {k : LKey} {n : Int} (hn : getM es k = n) : Ctx W w ([.blk q.lb (LedXB q st c0 c1 c2) 117] ++ G) (MapV q.mb k n) := by
  have c1 : Ctx W w ([.blk q.lb (LedXB q st c0 c1 c2) 117, .obj q.mb (mObj es clk)] ++ G) Φ := cx.sub (by
    refine List.Sublist.append ?_ (List.Sublist.refl G)
    show List.Sublist _ (_ :: _ :: _ :: _ :: R)
    exact .cons_cons _ (.cons _ (.cons _ (.cons_cons _ (List.nil_sublist _)))))
  have c2 := (Ctx.swap c1).park
  exact c2.weak fun M w h => ⟨(h.2.2 q.mb (by simp [Own.dom])).1, es, clk, h.2.1, hn⟩
theorem ledx_blk [Stable Φ] {c0 c1 c2 : Int} {es : List MEnt} {clk : Nat} (cx : Ctx W w ((LedX q st c0 c1 c2 es clk ++ R) ++ G) Φ) : Ctx W w ([.blk q.lb (LedXB q st c0 c1 c2) 117] ++ G) (fun _ _ => True) := by
  have c1 : Ctx W w ([.blk q.lb (LedXB q st c0 c1 c2) 117] ++ G) Φ := cx.sub (by
    refine List.Sublist.append ?_ (List.Sublist.refl G)
    show List.Sublist _ (_ :: _ :: _ :: _ :: R)
    exact .cons_cons _ (List.nil_sublist _))
  exact c1.weak fun _ _ _ => trivial

/-- one of the three counters goes up -/
def CausTail (lb : Nat) (n30 : Int) (W : World) (R83 : List Own) (Φ84 : PW) (K : List Own → PW → Prop) : Prop :=
  ∃ (R85 : List Own) (Φ86 : PW), Stable Φ86 ∧ (∀ (w : World) (F : List Own), Ctx W w (R83 ++ F) Φ84 → Ctx W w (R85 ++ F) Φ86) ∧ (0 ≤ n30 ∧ n30 < 3) ∧ ∃ n89 : Int,
    (∀ (w : World) (F : List Own), Ctx W w (R85 ++ F) Φ86 → ∃ n92 : Int, w.cell? ⟨lb, 0 + 3 + n30.toNat, none⟩ = some (.int .i64 n92) ∧ Value.int .i64 n92 = .int .i64 n89) ∧ I64 (n89 + 1) ∧ (0 ≤ n30 ∧ n30 < 3) ∧
    ∀ (w : World) (F : List Own), Ctx W w (R83 ++ F) Φ84 → CanWrite w lb (0 + 3 + n30.toNat) 1 ∧ ∀ w95 : World, w95 = w.setCell ⟨lb, 0 + 3 + n30.toNat, none⟩ (.int .i64 (n89 + 1)) → ∃ (R96 : List Own) (Φ97 : PW), Stable Φ97 ∧ Ctx W w95 (R96 ++ F) Φ97 ∧ K R96 Φ97

theorem caus_tail [Stable Φ] {c0 c1 c2 n30 : Int} {es : List MEnt} {clk : Nat} (hc : n30 = 0 ∨ n30 = 1 ∨ n30 = 2) (h0 : 0 ≤ c0 ∧ c0 < 1000000000) (h1 : 0 ≤ c1 ∧ c1 < 1000000000) (h2 : 0 ≤ c2 ∧ c2 < 1000000000) {K : List Own → PW → Prop}
    (hk : K (LedX q st (c0 + if n30 = 0 then 1 else 0) (c1 + if n30 = 1 then 1 else 0) (c2 + if n30 = 2 then 1 else 0) es clk ++ R) Φ) : CausTail q.lb n30 W (LedX q st c0 c1 c2 es clk ++ R) Φ K := by
  rcases hc with rfl | rfl | rfl
  · refine ⟨_, Φ, inferInstance, fun w F c => c, by omega, c0, fun w F c => ⟨c0, c.get 0 rfl rfl, rfl⟩, by unfold I64; omega, by omega, fun w F c => ⟨c.can 0 rfl (by show 3 + 1 ≤ 6; decide), fun w2 e => ⟨LedX q st (c0 + 1) (c1) (c2) es clk ++ R, Φ, inferInstance, c.put 0 e rfl, ?_⟩⟩⟩
    simpa using hk
  · refine ⟨_, Φ, inferInstance, fun w F c => c, by omega, c1, fun w F c => ⟨c1, c.get 0 rfl rfl, rfl⟩, by unfold I64; omega, by omega, fun w F c => ⟨c.can 0 rfl (by show 4 + 1 ≤ 6; decide), fun w2 e => ⟨LedX q st (c0) (c1 + 1) (c2) es clk ++ R, Φ, inferInstance, c.put 0 e rfl, ?_⟩⟩⟩
    simpa using hk
  · refine ⟨_, Φ, inferInstance, fun w F c => c, by omega, c2, fun w F c => ⟨c2, c.get 0 rfl rfl, rfl⟩, by unfold I64; omega, by omega, fun w F c => ⟨c.can 0 rfl (by show 5 + 1 ≤ 6; decide), fun w2 e => ⟨LedX q st (c0) (c1) (c2 + 1) es clk ++ R, Φ, inferInstance, c.put 0 e rfl, ?_⟩⟩⟩
    simpa using hk

theorem bat_app (l : List BatD) (x : BatD) : batCells (l ++ [x]) = batCells l ++ x.cells := by simp [batCells]

set_option maxHeartbeats 4000000 in
theorem Append_use [Stable Φ] {no mark : Int} [hT : Has Φ TabI] [hF : Has Φ (LF q st)] (hq : LedQ q st) (hs : LedS st) (hk : CntOk st) (src : Src [] Φ p L cs) (hlen : L.length ≤ 100000) (hrow : ∀ x ∈ L, x.row.length ≤ 1000000) (htx : ∀ x ∈ L, ∀ v ∈ x.row, v.text.size ≤ 10000)
    (c : Ctx W w ((LedO q st ++ R) ++ G) Φ) {K : Int → List Own → PW → Prop}
    (h0 : checkP st no mark L ≠ 0 → K (checkP st no mark L) (LedO q st ++ R) Φ)
    (h1 : ∀ q', checkP st no mark L = 0 → RowsFit L → q'.lb = q.lb → LedQ q' (appP st no mark L) → Stable (fun M w => Φ M w ∧ LF q' (appP st no mark L) M w) → K 0 (LedO q' (appP st no mark L) ++ R) (fun M w => Φ M w ∧ LF q' (appP st no mark L) M w)) :
    Calls Tryd.prog F.ledger_Ledger_Append #[led q, .int .i64 no, .int .i64 mark, .slice p L.length cap] w fun e w' => ∃ n, e = .returned (.int .i64 n) ∧ ∃ R' Φ', Stable Φ' ∧ Ctx W w' (R' ++ G) Φ' ∧ K n R' Φ' := by
  have hsl := hs.lines
  have hc : Rows7 cs L := rows7 (src.el _ _ c.phi)
  have hfit : RowsFit L := fun x hx v hv => by
    obtain ⟨i, hi, rfl⟩ := List.getElem_of_mem hx
    obtain ⟨r, rc, he, _⟩ := hc i hi
    obtain ⟨g1, g2⟩ := sl_i64 (src_sl src hi he c.phi) v hv
    exact ⟨g1, Nat.le_trans g2 (by decide)⟩
  refine (Bledger_Ledger_Append_run q.lb 0 no mark p L.length cap (R := (LedO q st ++ R) ++ G) (J := fun v w' => ∃ n, v = .int .i64 n ∧ ∃ R' Φ', Stable Φ' ∧ Ctx W w' (R' ++ G) Φ' ∧ K n R' Φ') c ?_).mono fun e w' ⟨v, he, n, hv, rest⟩ => ⟨n, by rw [he, hv], rest⟩
  clear c
  refine fun w G2 cx => (Check_q hq hs hk src (by omega) hrow htx).toI (R := R ++ G) (cx.re (by simp)) ?_
  clear cx
  refine Br.intro (fun h => fun w G2 cx => ⟨_, rfl, _, Φ, inferInstance, (cx.left.re (by simp)), h0 (of_decide_eq_true h)⟩) (fun h => ?_)
  have hz : checkP st no mark L = 0 := Decidable.not_not.1 (of_decide_eq_false h)
  have ac := check_ok hz
  have hap := ac.apart hfit
  have b0 := caus_bd st.lines 0
  have b1 := caus_bd st.lines 1
  have b2 := caus_bd st.lines 2
  refine exI_mk (fun iI R' Φ' k => ∃ (i : Nat) (es : List MEnt) (clk : Nat), iI = i ∧ i ≤ L.length ∧ MapOk es clk ∧ (∀ k, getM es k = cntL st.lines k + cntL (L.take i) k) ∧ R' = LedX q st (caus st.lines 0 + caus (L.take i) 0) (caus st.lines 1 + caus (L.take i) 1) (caus st.lines 2 + caus (L.take i) 2) es clk ++ (R ++ G) ∧ Φ' = Φ ∧ k = L.length - i)
    ⟨⟨LedO q st ++ (R ++ G), Φ, _, inferInstance, fun w G cx => cx, 0, q.es, q.clk, rfl, Nat.zero_le _, hq.map, fun k => by rw [hq.cnt k]; simp [cntL], by simp [caus], rfl, rfl⟩, ?_⟩
  rintro iI R1 Φ1 k _ ⟨i, es, clk, rfl, hi, hmo, hcnt, rfl, rfl, rfl⟩
  have a0 := caus_bd (L.take i) 0
  have a1 := caus_bd (L.take i) 1
  have a2 := caus_bd (L.take i) 2
  rw [List.length_take] at a0 a1 a2
  refine Br.intro (fun hlt => ?_) (fun hge => ?_)
  · have hlt : i < L.length := by have := of_decide_eq_true hlt; omega
    obtain ⟨b, o, hp⟩ := src.ptr (by omega)
    obtain ⟨r, rc, he, g1, g2, g3⟩ := hc i hlt
    have hhi : Has Φ1 (fun M w => Sl M w r L[i].row) := ⟨fun M w h => src_sl src hlt he h⟩
    have hzero := ac.zero hfit hlt
    have hroom := ac.room (List.getElem_mem hlt)
    have hkb := hk L[i].at
    obtain ⟨_, lok⟩ := ac.mem (List.getElem_mem hlt)
    have hca := caused_cause lok.caused
    have hg := hcnt L[i].at
    rw [hzero, Int.add_zero] at hg
    obtain ⟨n0, hn0⟩ : ∃ n0, cntL st.lines L[i].at = n0 := ⟨_, rfl⟩
    rw [hn0] at hg hroom hkb
    obtain ⟨d0, hd0⟩ : ∃ d, caus st.lines 0 + caus (L.take i) 0 = d := ⟨_, rfl⟩
    obtain ⟨d1, hd1⟩ : ∃ d, caus st.lines 1 + caus (L.take i) 1 = d := ⟨_, rfl⟩
    obtain ⟨d2, hd2⟩ : ∃ d, caus st.lines 2 + caus (L.take i) 2 = d := ⟨_, rfl⟩
    rw [hd0, hd1, hd2]
    refine ⟨by omega, ptrK_intro b o hp fun w G2 cx => ⟨L[i].no, L[i].batch, L[i].time, r, L[i].row.length, rc, L[i].n, L[i].cause, L[i].why, by rw [Int.toNat_natCast]; exact src_at (S := []) src hp cx he, fun _ w G2 cx => ?_⟩⟩
    refine at_use L[i] r rc (hrow _ (List.getElem_mem _)) (htx _ (List.getElem_mem _)) cx ?_
    clear cx
    -- what is left, once the map has its entry
    have tail : ∀ (es' : List MEnt) (clk' : Nat), MapOk es' clk' → (∀ k, getM es' k = cntL st.lines k + cntL (L.take (i + 1)) k) → ∀ K : List Own → PW → Prop,
        K (LedX q st (caus st.lines 0 + caus (L.take (i + 1)) 0) (caus st.lines 1 + caus (L.take (i + 1)) 1) (caus st.lines 2 + caus (L.take (i + 1)) 2) es' clk' ++ (R ++ G)) Φ1 → CausTail q.lb L[i].cause W (LedX q st d0 d1 d2 es' clk' ++ (R ++ G)) Φ1 K := fun es' clk' _ _ K hK => by
      refine caus_tail hca (by omega) (by omega) (by omega) ?_
      rw [caus_step hlt, caus_step hlt, caus_step hlt, ← Int.add_assoc, ← Int.add_assoc, ← Int.add_assoc, hd0, hd1, hd2] at hK
      exact hK
    have step : ∀ y : LKey, cntL st.lines y + cntL (L.take (i + 1)) y = if y = L[i].at then n0 + L[i].n else getM es y := fun y => by
      rw [cnt_step hlt, hcnt y]
      by_cases hy : y = L[i].at
      · rw [if_pos hy, hy, hzero, if_pos rfl, hn0]; omega
      · rw [if_neg hy, if_neg (fun e => hy e.symm)]; omega
    refine fun _ => ⟨[.blk q.lb (LedXB q st d0 d1 d2) 117], MapV q.mb L[i].at n0, inferInstance, fun w G2 cx => ledx_val cx hg, some q.mb, fun w G2 cx => ⟨some q.mb, cx.get 0 rfl rfl, rfl⟩, n0, fun w G2 cx => ?_, by unfold I64; omega, fun w G2 cx => ?_⟩
    · obtain ⟨_, es3, clk3, h4, h5⟩ := cx.phi
      exact ⟨n0, fun w2 hw2 => by rw [← h5]; exact run_lookupM keyTy (by rw [hw2]; exact h4) L[i].at, rfl⟩
    obtain ⟨es1, clk1, s, hrun, ok1, hg1, hx1⟩ := run_entryM keyTy hmo (ledx_map cx) L[i].at
    refine ⟨getM es L[i].at, (s : Int), _, hrun, LedX q st d0 d1 d2 es1 clk1 ++ (R ++ G), Φ1, inferInstance, ledx_put cx es1 clk1, fun w G2 cx => ledx_val cx (by rw [hg1]; exact hg), fun w G2 cx => ?_⟩
    obtain ⟨es2, hrun2, ok2, hg2⟩ := run_storeM 114 ok1 hx1 (ledx_map cx) (n0 + L[i].n)
    have hg2' : ∀ y, getM es2 y = cntL st.lines y + cntL (L.take (i + 1)) y := fun y => by rw [hg2 y, step y, hg1]
    have hval : getM es2 L[i].at = n0 + L[i].n := by rw [hg2, if_pos rfl]
    refine ⟨_, hrun2, LedX q st d0 d1 d2 es2 clk1 ++ (R ++ G), Φ1, inferInstance, ledx_put cx es2 clk1, fun w G2 cx => ⟨some q.mb, cx.get 0 rfl rfl, getM es2 L[i].at, fun w2 hw2 => run_lookupM keyTy (by rw [hw2]; exact ledx_map cx) L[i].at, ?_⟩⟩
    clear cx
    rw [hval]
    refine Br.intro (fun h4 => ⟨LedX q st d0 d1 d2 es2 clk1 ++ (R ++ G), Φ1, inferInstance, fun w G2 cx => cx, some q.mb, fun w G2 cx => ⟨some q.mb, cx.get 0 rfl rfl, rfl⟩, fun w G2 cx => ?_⟩) (fun h4 => ?_)
    · have h4 := of_decide_eq_true h4
      obtain ⟨es3, hrun3, ok3, hg3⟩ := run_deleteM keyTy ok2 (ledx_map cx) L[i].at 123 0 #[false, false]
      have hg3' : ∀ y, getM es3 y = cntL st.lines y + cntL (L.take (i + 1)) y := fun y => by
        rw [hg3 y, ← hg2' y, hg2 y]
        by_cases hy : y = L[i].at
        · rw [if_pos hy, if_pos hy]; omega
        · rw [if_neg hy]
      exact ⟨_, hrun3, LedX q st d0 d1 d2 es3 clk1 ++ (R ++ G), Φ1, inferInstance, ledx_put cx es3 clk1, tail es3 clk1 ok3 hg3' _ ⟨by unfold I64; omega, _, Φ1, L.length - (i + 1), inferInstance, fun w G cx => cx, ⟨i + 1, es3, clk1, rfl, hlt, ok3, hg3', rfl, rfl, rfl⟩, by omega⟩⟩
    · exact tail es2 clk1 ok2 hg2' _ ⟨by unfold I64; omega, _, Φ1, L.length - (i + 1), inferInstance, fun w G cx => cx, ⟨i + 1, es2, clk1, rfl, hlt, ok2, hg2', rfl, rfl, rfl⟩, by omega⟩
  have hge : i = L.length := by have := of_decide_eq_false hge; omega
  subst hge
  rw [List.take_length] at hcnt ⊢
  clear a0 a1 a2
  rw [← caus_app, ← caus_app, ← caus_app]
  refine ⟨[.blk q.lb (LedXB q st (caus (st.lines ++ L) 0) (caus (st.lines ++ L) 1) (caus (st.lines ++ L) 2)) 117], (fun _ _ => True), inferInstance, fun w G2 cx => ledx_blk cx, q.lp, st.lines.length, q.lc, fun w G2 cx => ⟨_, _, _, cx.get 0 rfl rfl, rfl⟩, fun w G2 cx => ?_⟩
  refine (Cloned_new (S := (LedX q st (caus (st.lines ++ L) 0) (caus (st.lines ++ L) 1) (caus (st.lines ++ L) 2) es clk ++ (R ++ G)) ++ G2) (Φ := Φ1) (src.app (S := []) (R := (LedX q st (caus (st.lines ++ L) 0) (caus (st.lines ++ L) 1) (caus (st.lines ++ L) 2) es clk ++ (R ++ G)) ++ G2)) (by omega) hrow cx).mono fun e w' ⟨p1, c1, cs1, he, cx⟩ => ?_
  obtain ⟨cx1, hsl1, _, e1, e2⟩ := Ctx.freeze (α := LineD) cx cx.phi.2
  refine ⟨p1, L.length, c1, he, LedX q st (caus (st.lines ++ L) 0) (caus (st.lines ++ L) 1) (caus (st.lines ++ L) 2) es clk ++ (R ++ G), (fun M w => Φ1 M w ∧ Sl M w p1 L), inferInstance, (cx1.add hsl1).weak fun M w h => ⟨h.1.1, h.2⟩, fun w G2 cx => ledx_blk cx, fun w G2 cx => ?_⟩
  obtain ⟨p2, c2, w2, news, hrun, cx3⟩ := Ctx.appAny (P := Tryd.prog) (ts := 57) (ty := 57) (kb := #[false, false]) (bytes := 72) (c2 := c1) (l := L) (q := p1) (Ctx.swap cx) (by kernel_rfl) line_one (fun M w h => h.2) (by omega) (by omega)
  have cx4 := Ctx.swap cx3
  have hel : st.lines.length + L.length = (st.lines ++ L).length := by rw [List.length_append]
  rw [hel] at hrun cx4
  obtain ⟨C0, hC0⟩ : ∃ C0, caus (st.lines ++ L) 0 = C0 := ⟨_, rfl⟩
  obtain ⟨C1, hC1⟩ : ∃ C1, caus (st.lines ++ L) 1 = C1 := ⟨_, rfl⟩
  obtain ⟨C2, hC2⟩ : ∃ C2, caus (st.lines ++ L) 2 = C2 := ⟨_, rfl⟩
  rw [hC0, hC1, hC2] at cx4 ⊢
  -- the lines have moved; the block tells so next
  refine ⟨p2, (st.lines ++ L).length, c2, w2, hrun, .blk q.lb (LedXB q st C0 C1 C2) 117 :: .buf p2 (st.lines ++ L).length c2 (q.cs ++ news) 81 7 :: .buf q.bp st.bats.length q.bc (batCells st.bats) 120 3 :: .obj q.mb (mObj es clk) :: (R ++ G), (fun M w => Φ1 M w ∧ Elems M w (q.cs ++ news) (st.lines ++ L)), inferInstance, cx4.weak fun M w h => ⟨h.1.1, (hF.go M w h.1.1).append h.2⟩, fun w G2 cx => ?_, fun w G2 cx => ⟨cx.can 0 rfl (by show 0 + 1 ≤ 6; decide), fun w4 hw4 => ?_⟩⟩
  · have cy : Ctx W w ([.blk q.lb (LedXB q st C0 C1 C2) 117] ++ G2) (fun M w => Φ1 M w ∧ Elems M w (q.cs ++ news) (st.lines ++ L)) := cx.sub (List.Sublist.append (show List.Sublist _ (_ :: _ :: _ :: _ :: (R ++ G)) from .cons_cons _ (List.nil_sublist _)) (List.Sublist.refl G2))
    exact cy.weak fun _ _ _ => trivial
  have cx5 := cx.put 0 hw4 rfl
  -- the ledger without the batch
  obtain ⟨q1, hq1⟩ : ∃ q1 : LP, q1 = ⟨q.lb, p2, c2, q.cs ++ news, q.bp, q.bc, q.mb, es, clk⟩ := ⟨_, rfl⟩
  have cx6 : Ctx W w4 ((LedX q1 ⟨st.lines ++ L, st.bats⟩ C0 C1 C2 es clk ++ (R ++ G)) ++ G2) (fun M w => Φ1 M w ∧ Elems M w (q.cs ++ news) (st.lines ++ L)) := by rw [hq1]; exact cx5
  have hlb : q.lb = q1.lb := by rw [hq1]
  have hbp : q.bp = q1.bp := by rw [hq1]
  have hbc : q.bc = q1.bc := by rw [hq1]
  refine ⟨LedX q1 ⟨st.lines ++ L, st.bats⟩ C0 C1 C2 es clk ++ (R ++ G), (fun M w => Φ1 M w ∧ Elems M w (q.cs ++ news) (st.lines ++ L)), inferInstance, cx6, ?_⟩
  clear cx6 cx5 cx4 cx3 cx
  rw [hlb]
  refine ⟨[.blk q1.lb (LedXB q1 ⟨st.lines ++ L, st.bats⟩ C0 C1 C2) 117], (fun _ _ => True), inferInstance, fun w G2 cx => ledx_blk cx, q1.bp, st.bats.length, q1.bc, fun w G2 cx => ⟨_, _, _, cx.get 0 rfl rfl, rfl⟩, q1.lp, (st.lines ++ L).length, q1.lc, fun w G2 cx => ⟨_, _, _, cx.get 0 rfl rfl, rfl⟩, fun kb => ⟨fun w G2 cx => ledx_blk (Ctx.drop1 cx), fun w G2 cx => ?_⟩⟩
  have hlen2 := hs.bats
  have cy : Ctx W w (.blk kb [.int .i64 no, .int .i64 mark, .int .i64 ((st.lines ++ L).length : Nat)] 120 :: .buf q1.bp st.bats.length q1.bc (batCells st.bats) 120 3 :: .blk q1.lb (LedXB q1 ⟨st.lines ++ L, st.bats⟩ C0 C1 C2) 117 :: .buf q1.lp (st.lines ++ L).length q1.lc q1.cs 81 7 :: .obj q1.mb (mObj es clk) :: ((R ++ G) ++ G2)) (fun M w => Φ1 M w ∧ Elems M w (q.cs ++ news) (st.lines ++ L)) := cx.perm (List.Perm.cons _ (List.perm_middle (l₁ := [_, _]) (a := _)))
  obtain ⟨p4, c4, w5, hrun5, _, cz⟩ := Ctx.app1 (P := Tryd.prog) (ts := 113) (ty := 113) (kb := #[false, false]) (size := 3) (bytes := 24) cy (by kernel_rfl) (by omega) rfl rfl (by omega) (by omega)
  have hbl : st.bats.length + 1 = (st.bats ++ [(⟨no, mark, (st.lines ++ L).length⟩ : BatD)]).length := by simp
  rw [hbl] at hrun5 cz
  obtain ⟨q2, hq2⟩ : ∃ q2 : LP, q2 = ⟨q1.lb, q1.lp, q1.lc, q1.cs, p4, c4, q1.mb, es, clk⟩ := ⟨_, rfl⟩
  refine ⟨p4, (st.bats ++ [(⟨no, mark, (st.lines ++ L).length⟩ : BatD)]).length, c4, w5, hrun5, .blk q1.lb (LedXB q1 ⟨st.lines ++ L, st.bats⟩ C0 C1 C2) 117 :: .buf q1.lp (st.lines ++ L).length q1.lc q1.cs 81 7 :: .buf p4 (st.bats ++ [(⟨no, mark, (st.lines ++ L).length⟩ : BatD)]).length c4 (batCells (st.bats ++ [⟨no, mark, (st.lines ++ L).length⟩])) 120 3 :: .obj q1.mb (mObj es clk) :: (R ++ G), (fun M w => Φ1 M w ∧ Elems M w (q.cs ++ news) (st.lines ++ L)), inferInstance, ?_, fun w G2 cx => ?_, fun w G2 cx => ⟨cx.can 0 rfl (by show 1 + 1 ≤ 6; decide), fun w6 hw6 => ?_⟩⟩
  · rw [bat_app]
    exact cz.perm (List.perm_middle (l₁ := [_, _]) (a := _)).symm
  · have cy : Ctx W w ([.blk q1.lb (LedXB q1 ⟨st.lines ++ L, st.bats⟩ C0 C1 C2) 117] ++ G2) (fun M w => Φ1 M w ∧ Elems M w (q.cs ++ news) (st.lines ++ L)) := cx.sub (List.Sublist.append (show List.Sublist _ (_ :: _ :: _ :: _ :: (R ++ G)) from .cons_cons _ (List.nil_sublist _)) (List.Sublist.refl G2))
    exact cy.weak fun _ _ _ => trivial
  have cw := cx.put 0 hw6 rfl
  have cw2 : Ctx W w6 ((LedO q2 (appP st no mark L) ++ R) ++ (G ++ G2)) (fun M w => Φ1 M w ∧ LF q2 (appP st no mark L) M w) := by
    rw [hq2]
    unfold appP
    simp only [LedO, LedB, LF, hC0, hC1, hC2]
    rw [hq1] at cw ⊢
    exact cw.re (by simp)
  have hel2 := cw2.phi.2
  have hlq : LedQ q2 (appP st no mark L) := {
    map := by rw [hq2]; exact hmo
    cnt := fun k => by rw [hq2]; show getM es k = cntL (st.lines ++ L) k; rw [cntL_app]; exact hcnt k
    lpt := fun h => by
      obtain ⟨g, hg, _⟩ := cw2.bufCell 1 rfl (by rw [elems_len7 hel2]; omega)
      exact ⟨g, hg⟩
    bpt := fun h => by
      obtain ⟨g, hg, _⟩ := cw2.bufCell 2 rfl (by
        have := (cw2.bufLen 2 rfl).1
        rw [this]; omega)
      exact ⟨g, hg⟩
    lcap := (cw2.bufLen 1 rfl).2
    cells := fun i hi => rows7 hel2 i hi
    len := elems_len7 hel2 }
  exact ⟨LedO q2 (appP st no mark L) ++ (R ++ G), _, inferInstance, cw2.re (by simp), fun w G3 cx => ⟨0, rfl, LedO q2 (appP st no mark L) ++ R, _, inferInstance, (cx.left).re (by simp), h1 q2 hz hfit (by rw [hq2, hq1]) hlq inferInstance⟩⟩
end
end Go.Proofs.YtbkpfhhhbhaecaaDoor
end

/-
  The encoding of a ledger, walked.
-/
section
set_option linter.unusedVariables false
set_option linter.unusedSimpArgs false
namespace Go.Proofs.YtbkpfhhhbhaecaaDoor
open Go.Vc


/-! ### plain -/
def lineB (x : LineD) : ByteArray := intB x.time ++ textB (rowB x.row) ++ intB x.n ++ intB x.cause ++ intB x.why
def linesL (l : List LineD) : List UInt8 := l.flatMap fun x => (lineB x).data.toList
def batB (b : BatD) (s : Nat) : ByteArray := intB b.no ++ intB b.mark ++ natB ((b.stop - s : Nat) : Int)
def begP (l : List BatD) (i : Nat) : Nat := if i = 0 then 0 else (l[i - 1]?.map BatD.stop).getD 0
def segL (st : LedD) (i : Nat) : List UInt8 := match st.bats[i]? with
  | some b => (batB b (begP st.bats i)).data.toList ++ linesL ((st.lines.drop (begP st.bats i)).take (b.stop - begP st.bats i))
  | none => []
def segsL (st : LedD) (n : Nat) : List UInt8 := (List.range n).flatMap (segL st)
def ledL (st : LedD) : List UInt8 := (natB (st.bats.length : Int)).data.toList ++ segsL st st.bats.length
def BatsOk (st : LedD) : Prop := (∀ i (h : i < st.bats.length), begP st.bats i ≤ st.bats[i].stop) ∧ ∀ b ∈ st.bats, I64 b.no ∧ I64 b.mark

theorem begP_succ {l : List BatD} {i : Nat} (h : i < l.length) : begP l (i + 1) = l[i].stop := by
  unfold begP
  rw [if_neg (by omega), Nat.add_sub_cancel, List.getElem?_eq_getElem h]; rfl
/-- lines that can be written -/
structure LineW (x : LineD) : Prop where
  inn : x.In
  val : ∀ v ∈ x.row, (I64 v.kind ∧ I64 v.num) ∧ v.text.size ≤ 300
  row : x.row.length ≤ 13
section
variable {Φ : PW} {q : LP} {st : LedD} {W w : World} {R S G : List Own}

end
end Go.Proofs.YtbkpfhhhbhaecaaDoor
end

/-
  Ints: a sort of few, and the other functions on lists of ints, walked.
-/
section
set_option linter.unusedVariables false
set_option linter.unusedSimpArgs false
namespace Go.Proofs.YtbkpfhhhbhaecaaDoor
open Go.Vc


abbrev intv (x : Int) : Value := .int .i64 x
abbrev bufZ (p : Option Addr) (cap : Nat) (zs : List Int) : Own := .buf p zs.length cap (zs.map intv) 3 1
abbrev leZ (c : Int → Int → Int) (x y : Int) : Prop := c x y ≤ 0
def CmpZ (Φ : PW) (f : FuncId) (cp : Array Value) (c : Int → Int → Int) (G : Int → Prop) : Prop := okFun Tryd.prog f = true ∧ ∀ x y : Int, G x → G y → GivesIn Φ Tryd.prog f (Array.mk (intv x :: intv y :: cp.toList)) (.int .i64 (c x y))

section
variable {W w w' : World} {S : List Own} {Φ : PW} {p : Option Addr} {g cap : Nat} {zs : List Int} {i : Nat} {x : Int}
end

/-! ### insertionSort -/
/-! ### a stable sort of few -/
end Go.Proofs.YtbkpfhhhbhaecaaDoor
end

/-
  Places, in plain Lean.
-/
section
set_option linter.unusedVariables false
set_option linter.unusedSimpArgs false
namespace Go.Proofs.YtbkpfhhhbhaecaaDoor
open Go.Vc


/-! ### counting -/
def shareP (p : List Int) (w : Nat) : Nat := p.count (w : Int)
def sumF (f : Nat → Nat) : Nat → Nat
  | 0 => 0
  | n + 1 => sumF f n + f n
theorem sumF_congr {f g : Nat → Nat} : ∀ {n : Nat}, (∀ i, i < n → f i = g i) → sumF f n = sumF g n
  | 0, _ => rfl
  | n + 1, h => by rw [sumF, sumF, sumF_congr (n := n) fun i hi => h i (by omega), h n (by omega)]
theorem sumF_le {f g : Nat → Nat} : ∀ {n : Nat}, (∀ i, i < n → f i ≤ g i) → sumF f n ≤ sumF g n
  | 0, _ => Nat.le_refl _
  | n + 1, h => Nat.add_le_add (sumF_le (n := n) fun i hi => h i (by omega)) (h n (by omega))
theorem sumF_add (f g : Nat → Nat) : ∀ n : Nat, sumF (fun i => f i + g i) n = sumF f n + sumF g n
  | 0 => rfl
  | n + 1 => by simp only [sumF, sumF_add f g n]; omega
theorem sumF_const (k : Nat) : ∀ n : Nat, sumF (fun _ => k) n = n * k
  | 0 => by simp [sumF]
  | n + 1 => by simp only [sumF, sumF_const k n, Nat.add_mul]; omega
/-- one term changes -/
theorem sumF_set {f g : Nat → Nat} {w : Nat} : ∀ {n : Nat}, w < n → (∀ i, i ≠ w → g i = f i) → sumF g n + f w = sumF f n + g w
  | 0, h, _ => by omega
  | n + 1, h, hg => by
    simp only [sumF]
    by_cases hn : w = n
    · subst hn
      rw [sumF_congr (f := g) (g := f) fun i hi => hg i (by omega)]; omega
    · have := sumF_set (n := n) (by omega) hg
      rw [hg n (by omega)]; omega
theorem sumF_pos {f : Nat → Nat} : ∀ {n : Nat}, 0 < sumF f n → ∃ i, i < n ∧ 0 < f i
  | 0, h => by simp [sumF] at h
  | n + 1, h => by
    simp only [sumF] at h
    by_cases hf : 0 < f n
    · exact ⟨n, by omega, hf⟩
    · obtain ⟨i, hi, h2⟩ := sumF_pos (f := f) (n := n) (by omega)
      exact ⟨i, by omega, h2⟩
/-- values below n: the shares add up to the length -/
theorem count_sum {n : Nat} : ∀ {p : List Int}, (∀ x ∈ p, 0 ≤ x ∧ x < n) → sumF (shareP p) n = p.length
  | [], _ => by
    exact (sumF_congr (g := fun _ => 0) fun i _ => rfl).trans (by rw [sumF_const]; rfl)
  | x :: p, h => by
    obtain ⟨h1, h2⟩ := h x (by simp)
    have ih := count_sum (n := n) (p := p) fun y hy => h y (by simp [hy])
    obtain ⟨m, rfl⟩ : ∃ m : Nat, x = (m : Int) := ⟨x.toNat, by omega⟩
    have h3 := sumF_set (f := shareP p) (g := shareP ((m : Int) :: p)) (w := m) (n := n) (by omega) fun i hi => by
      unfold shareP
      rw [List.count_cons_of_ne (by omega)]
    have h4 : shareP ((m : Int) :: p) m = shareP p m + 1 := by unfold shareP; rw [List.count_cons_self]
    rw [List.length_cons]; omega
/-! ### keeping what there is room for -/
/-- one bucket after the other: kept if its worker is there and has room -/
def keepG (W : Nat) : List Int → (Nat → Nat) → List Bool × (Nat → Nat)
  | [], room => ([], room)
  | x :: p, room =>
    if x < W ∧ 0 < room x.toNat then (true :: (keepG W p (fun i => if i = x.toNat then room i - 1 else room i)).1, (keepG W p (fun i => if i = x.toNat then room i - 1 else room i)).2)
    else (false :: (keepG W p room).1, (keepG W p room).2)
/-- how many are kept at a worker -/
def keptAt : List Int → List Bool → Nat → Nat
  | x :: p, c :: fl, w => (if c = true ∧ x = (w : Int) then 1 else 0) + keptAt p fl w
  | _, _, _ => 0

theorem keepG_len (W : Nat) : ∀ (p : List Int) (room : Nat → Nat), (keepG W p room).1.length = p.length
  | [], _ => rfl
  | x :: p, room => by
    unfold keepG
    split
    · simp only [List.length_cons, keepG_len W p]
    · simp only [List.length_cons, keepG_len W p]
theorem keepG_room (W : Nat) : ∀ (p : List Int) (room : Nat → Nat), (∀ x ∈ p, 0 ≤ x) → ∀ w, w < W → (keepG W p room).2 w = room w - shareP p w
  | [], room, _, w, _ => by simp [keepG, shareP]
  | x :: p, room, h, w, hw => by
    have h0 := h x (by simp)
    have ih := fun r => keepG_room W p r (fun y hy => h y (by simp [hy])) w hw
    have hc : shareP (x :: p) w = shareP p w + if x = (w : Int) then 1 else 0 := by
      unfold shareP
      rw [List.count_cons]
      congr 1
      by_cases hx : x = (w : Int)
      · simp [hx]
      · simp [hx]
    unfold keepG
    split
    · rename_i hk
      simp only
      rw [ih, hc]
      by_cases hx : x = (w : Int)
      · rw [if_pos (by omega), if_pos hx]; omega
      · rw [if_neg (by omega), if_neg hx]; omega
    · rename_i hk
      simp only
      rw [ih, hc]
      by_cases hx : x = (w : Int)
      · rw [if_pos hx]
        have : room w = 0 := by
          subst hx
          rw [Int.toNat_natCast] at hk
          omega
        omega
      · rw [if_neg hx]; omega
theorem keepG_at (W : Nat) : ∀ (p : List Int) (room : Nat → Nat), (∀ x ∈ p, 0 ≤ x) → ∀ w, w < W → keptAt p (keepG W p room).1 w + (keepG W p room).2 w = room w
  | [], room, _, w, _ => by simp [keepG, keptAt]
  | x :: p, room, h, w, hw => by
    have h0 := h x (by simp)
    have ih := fun r => keepG_at W p r (fun y hy => h y (by simp [hy])) w hw
    unfold keepG
    split
    · rename_i hk
      simp only [keptAt]
      have := ih (fun i => if i = x.toNat then room i - 1 else room i)
      by_cases hx : x = (w : Int)
      · rw [if_pos ⟨trivial, hx⟩]
        subst hx
        rw [Int.toNat_natCast] at hk this ⊢
        rw [if_pos rfl] at this
        omega
      · rw [if_neg (fun h => hx h.2)]
        rw [if_neg (by omega)] at this
        omega
    · simp only [keptAt]
      rw [if_neg (fun h => by cases h.1), Nat.zero_add]
      exact ih room
/-- what is not kept has no worker, or one that is full -/
theorem keepG_not (W : Nat) : ∀ (p : List Int) (room : Nat → Nat), (∀ x ∈ p, 0 ≤ x) → ∀ j (hj : j < p.length), (keepG W p room).1[j]? = some false → (W : Int) ≤ p[j] ∨ (keepG W p room).2 p[j].toNat = 0
  | [], _, _, j, hj, _ => by simp at hj
  | x :: p, room, h, j, hj, hf => by
    have h0 := h x (by simp)
    have hp : ∀ y ∈ p, 0 ≤ y := fun y hy => h y (by simp [hy])
    unfold keepG at hf ⊢
    split at hf
    · rename_i hk
      rw [if_pos hk]
      simp only at hf ⊢
      cases j with
      | zero => simp at hf
      | succ j => exact keepG_not W p _ hp j (by simpa using hj) (by simpa using hf)
    · rename_i hk
      rw [if_neg hk]
      simp only at hf ⊢
      cases j with
      | zero =>
        simp only [List.getElem_cons_zero]
        by_cases hx : x < W
        · right
          have hr := keepG_room W p room hp x.toNat (by omega)
          have : room x.toNat = 0 := by omega
          omega
        · left; omega
      | succ j => exact keepG_not W p _ hp j (by simpa using hj) (by simpa using hf)
theorem keepG_yes (W : Nat) : ∀ (p : List Int) (room : Nat → Nat) (j : Nat) (hj : j < p.length), (keepG W p room).1[j]? = some true → p[j] < (W : Int)
  | [], _, j, hj, _ => by simp at hj
  | x :: p, room, j, hj, hf => by
    unfold keepG at hf
    split at hf
    · rename_i hk
      simp only at hf
      cases j with
      | zero => exact hk.1
      | succ j => exact keepG_yes W p _ j (by simpa using hj) (by simpa using hf)
    · simp only at hf
      cases j with
      | zero => simp at hf
      | succ j => exact keepG_yes W p _ j (by simpa using hj) (by simpa using hf)

/-- the first worker with room -/
def firstG (room : Nat → Nat) : Nat → Nat → Nat
  | 0, i => i
  | n + 1, i => if 0 < room i then i else firstG room n (i + 1)
theorem firstG_spec (room : Nat → Nat) : ∀ (n i : Nat), (∃ j, i ≤ j ∧ j < i + n ∧ 0 < room j) → i ≤ firstG room n i ∧ firstG room n i < i + n ∧ 0 < room (firstG room n i)
  | 0, i, h => by obtain ⟨j, h1, h2, _⟩ := h; omega
  | n + 1, i, h => by
    unfold firstG
    split
    · rename_i h0
      exact ⟨Nat.le_refl _, by omega, h0⟩
    · rename_i h0
      obtain ⟨j, h1, h2, h3⟩ := h
      have : i ≠ j := fun e => h0 (by rw [e]; exact h3)
      have := firstG_spec room n (i + 1) ⟨j, by omega, by omega, h3⟩
      omega

/-- the others are given to the first worker with room -/
def fillG (W : Nat) : List Int → List Bool → (Nat → Nat) → List Int
  | x :: p, true :: fl, room => x :: fillG W p fl room
  | _ :: p, false :: fl, room => (firstG room W 0 : Int) :: fillG W p fl (fun i => if i = firstG room W 0 then room i - 1 else room i)
  | _, _, _ => []
def missing (fl : List Bool) : Nat := fl.count false

theorem fillG_len (W : Nat) : ∀ (p : List Int) (fl : List Bool) (room : Nat → Nat), fl.length = p.length → (fillG W p fl room).length = p.length
  | [], [], _, _ => rfl
  | [], _ :: _, _, h => by simp at h
  | _ :: _, [], _, h => by simp at h
  | x :: p, true :: fl, room, h => by simp only [fillG, List.length_cons, fillG_len W p fl room (by simpa using h)]
  | x :: p, false :: fl, room, h => by simp only [fillG, List.length_cons, fillG_len W p fl _ (by simpa using h)]

theorem room_step {W : Nat} {room : Nat → Nat} {m : Nat} (h : sumF room W = m + 1) : firstG room W 0 < W ∧ 0 < room (firstG room W 0) ∧ sumF (fun i => if i = firstG room W 0 then room i - 1 else room i) W = m := by
  obtain ⟨j, h1, h2⟩ := sumF_pos (f := room) (n := W) (by omega)
  obtain ⟨_, g1, g2⟩ := firstG_spec room W 0 ⟨j, by omega, by omega, h2⟩
  have hs := sumF_set (f := room) (g := fun i => if i = firstG room W 0 then room i - 1 else room i) (w := firstG room W 0) (n := W) (by omega) fun i hi => if_neg hi
  simp only [if_true] at hs
  exact ⟨by omega, g2, by omega⟩

theorem fillG_at (W : Nat) : ∀ (p : List Int) (fl : List Bool) (room : Nat → Nat), fl.length = p.length → sumF room W = missing fl → ∀ j (hj : j < p.length), (fl[j]? = some true → (fillG W p fl room)[j]? = some p[j]) ∧ (fl[j]? = some false → ∃ w : Nat, w < W ∧ 0 < room w ∧ (fillG W p fl room)[j]? = some (w : Int))
  | [], _, _, _, _, j, hj => by simp at hj
  | _ :: _, [], _, h, _, _, _ => by simp at h
  | x :: p, true :: fl, room, h, hs, j, hj => by
    have hm : missing (true :: fl) = missing fl := by simp [missing]
    cases j with
    | zero => exact ⟨fun _ => rfl, fun h => by simp at h⟩
    | succ j =>
      have ih := fillG_at W p fl room (by simpa using h) (by rw [hs, hm]) j (by simpa using hj)
      simpa [fillG] using ih
  | x :: p, false :: fl, room, h, hs, j, hj => by
    have hm : missing (false :: fl) = missing fl + 1 := by simp [missing]
    obtain ⟨g1, g2, g3⟩ := room_step (room := room) (W := W) (m := missing fl) (by rw [hs, hm])
    cases j with
    | zero => exact ⟨fun h => by simp at h, fun _ => ⟨firstG room W 0, g1, g2, rfl⟩⟩
    | succ j =>
      have ih := fillG_at W p fl _ (by simpa using h) g3 j (by simpa using hj)
      refine ⟨by simpa [fillG] using ih.1, fun hf => ?_⟩
      obtain ⟨w, h1, h2, h3⟩ := ih.2 (by simpa using hf)
      refine ⟨w, h1, ?_, by simpa [fillG] using h3⟩
      split at h2 <;> omega

end Go.Proofs.YtbkpfhhhbhaecaaDoor
end

/-
  Spreading, in plain Lean.
-/
section
set_option linter.unusedVariables false
set_option linter.unusedSimpArgs false
namespace Go.Proofs.YtbkpfhhhbhaecaaDoor
open Go.Vc


theorem sumF_mem {n : Nat} : ∀ {l : List Nat}, l.Nodup → (∀ x ∈ l, x < n) → sumF (fun w => if w ∈ l then 1 else 0) n = l.length
  | [], _, _ => by
    refine (sumF_congr (g := fun _ => 0) fun i _ => ?_).trans (by rw [sumF_const]; rfl)
    simp
  | x :: l, hd, h => by
    have hx := List.nodup_cons.1 hd
    have ih := sumF_mem (n := n) hx.2 fun y hy => h y (by simp [hy])
    have h2 := sumF_set (f := fun w => if w ∈ l then 1 else 0) (g := fun w => if w ∈ x :: l then 1 else 0) (w := x) (n := n) (h x (by simp)) fun i hi => by simp [hi]
    simp only [List.mem_cons, true_or, if_true] at h2
    rw [if_neg hx.1] at h2
    rw [List.length_cons]
    simp only [List.mem_cons]
    omega

/-- the most often chosen ones get one more -/
def evenRoom (W : Nat) (ord : List Nat) (w : Nat) : Nat := 16 / W + if w ∈ ord.take (16 % W) then 1 else 0
structure OrdOf (p : List Int) (W : Nat) (ord : List Nat) : Prop where
  perm : ord.Perm (List.range W)
  desc : ord.Pairwise fun a b => shareP p b ≤ shareP p a

theorem OrdOf.nodup {p : List Int} {W : Nat} {ord : List Nat} (h : OrdOf p W ord) : ord.Nodup := h.perm.nodup_iff.2 List.nodup_range
theorem OrdOf.mem {p : List Int} {W : Nat} {ord : List Nat} (h : OrdOf p W ord) {w : Nat} : w ∈ ord ↔ w < W := by rw [h.perm.mem_iff, List.mem_range]
theorem OrdOf.len {p : List Int} {W : Nat} {ord : List Nat} (h : OrdOf p W ord) : ord.length = W := by rw [h.perm.length_eq, List.length_range]

theorem extra_sum {p : List Int} {W : Nat} {ord : List Nat} (h : OrdOf p W ord) (hW : 0 < W) : sumF (fun w => if w ∈ ord.take (16 % W) then 1 else 0) W = 16 % W := by
  rw [sumF_mem (h.nodup.sublist (List.take_sublist _ _)) fun x hx => h.mem.1 (List.mem_of_mem_take hx), List.length_take, h.len]
  have := Nat.mod_lt 16 hW
  omega
theorem room_sum {p : List Int} {W : Nat} {ord : List Nat} (h : OrdOf p W ord) (hW : 0 < W) : sumF (evenRoom W ord) W = 16 := by
  have h1 := sumF_add (fun _ => 16 / W) (fun w => if w ∈ ord.take (16 % W) then 1 else 0) W
  rw [sumF_const, extra_sum h hW] at h1
  have := Nat.div_add_mod 16 W
  exact h1.trans this

theorem kept_sum {W : Nat} : ∀ {p : List Int} {fl : List Bool}, fl.length = p.length → (∀ x ∈ p, 0 ≤ x) → (∀ j (hj : j < p.length), fl[j]? = some true → p[j] < (W : Int)) → sumF (keptAt p fl) W = fl.count true
  | [], [], _, _, _ => by
    refine (sumF_congr (g := fun _ => 0) fun i _ => rfl).trans (by rw [sumF_const]; rfl)
  | [], _ :: _, h, _, _ => by simp at h
  | _ :: _, [], h, _, _ => by simp at h
  | x :: p, c :: fl, h, h0, hy => by
    have ih := kept_sum (W := W) (p := p) (fl := fl) (by simpa using h) (fun y hy => h0 y (by simp [hy])) fun j hj hf => by
      have := hy (j + 1) (by simpa using hj) (by simpa using hf)
      simpa using this
    cases c with
    | false =>
      rw [List.count_cons_of_ne (by simp), ← ih]
      exact sumF_congr fun i _ => by simp [keptAt]
    | true =>
      have hx := hy 0 (by simp) rfl
      have hx : x < W := hx
      have hx0 := h0 x (by simp)
      rw [List.count_cons_self, ← ih]
      have h2 := sumF_set (f := keptAt p fl) (g := keptAt (x :: p) (true :: fl)) (w := x.toNat) (n := W) (by omega) fun i hi => by
        simp only [keptAt]
        rw [if_neg (fun h => hi (by have := h.2; omega)), Nat.zero_add]
      have h3 : keptAt (x :: p) (true :: fl) x.toNat = 1 + keptAt p fl x.toNat := by
        simp only [keptAt]
        rw [if_pos ⟨trivial, by omega⟩]
      omega
theorem flags_count : ∀ fl : List Bool, fl.count true + missing fl = fl.length
  | [] => rfl
  | true :: fl => by
    have := flags_count fl
    unfold missing at this ⊢
    rw [List.count_cons_self, List.count_cons_of_ne (by simp), List.length_cons]; omega
  | false :: fl => by
    have := flags_count fl
    unfold missing at this ⊢
    rw [List.count_cons_self, List.count_cons_of_ne (by simp), List.length_cons]; omega

def differ : List Int → List Int → Nat
  | x :: p, y :: q => (if x ≠ y then 1 else 0) + differ p q
  | _, _ => 0
theorem differ_flags : ∀ {p q : List Int} {fl : List Bool}, q.length = p.length → fl.length = p.length → (∀ j (hj : j < p.length), (fl[j]? = some true → q[j]? = some p[j]) ∧ (fl[j]? = some false → q[j]? ≠ some p[j])) → differ p q = missing fl
  | [], [], [], _, _, _ => rfl
  | [], _ :: _, _, h, _, _ => by simp at h
  | _ :: _, [], _, h, _, _ => by simp at h
  | [], [], _ :: _, _, h, _ => by simp at h
  | _ :: _, _ :: _, [], _, h, _ => by simp at h
  | x :: p, y :: q, c :: fl, h1, h2, h => by
    have ih := differ_flags (p := p) (q := q) (fl := fl) (by simpa using h1) (by simpa using h2) fun j hj => by
      have := h (j + 1) (by simpa using hj)
      simpa using this
    have h0 := h 0 (by simp)
    simp only [List.getElem?_cons_zero, List.getElem_cons_zero, Option.some.injEq] at h0
    unfold differ
    rw [ih]
    cases c with
    | true =>
      have := h0.1 rfl
      rw [if_neg (by rw [this]; simp)]
      simp [missing]
    | false =>
      have := h0.2 rfl
      rw [if_pos (fun e => this (by rw [e]))]
      simp [missing]; omega

def spreadG (p : List Int) (W : Nat) (ord : List Nat) : List Int := fillG W p (keepG W p (evenRoom W ord)).1 (keepG W p (evenRoom W ord)).2

structure PlaceOf (p : List Int) : Prop where
  len : p.length = 16
  nn : ∀ x ∈ p, 0 ≤ x

theorem spread_room {p : List Int} {W : Nat} {ord : List Nat} (hp : PlaceOf p) (h : OrdOf p W ord) (hW : 0 < W) : sumF (keepG W p (evenRoom W ord)).2 W = missing (keepG W p (evenRoom W ord)).1 := by
  have h1 := kept_sum (W := W) (keepG_len W p (evenRoom W ord)) hp.nn (keepG_yes W p (evenRoom W ord))
  have h2 := flags_count (keepG W p (evenRoom W ord)).1
  have h3 := sumF_add (keptAt p (keepG W p (evenRoom W ord)).1) (keepG W p (evenRoom W ord)).2 W
  rw [sumF_congr fun w hw => keepG_at W p (evenRoom W ord) hp.nn w hw, room_sum h hW] at h3
  rw [keepG_len, hp.len] at h2
  omega
theorem spread_len {p : List Int} {W : Nat} {ord : List Nat} (hp : PlaceOf p) : (spreadG p W ord).length = 16 := by
  unfold spreadG
  rw [fillG_len _ _ _ _ (keepG_len W p _), hp.len]
/-- it moves what it must -/
theorem spread_moves {p : List Int} {W : Nat} {ord : List Nat} (hp : PlaceOf p) (h : OrdOf p W ord) (hW : 0 < W) : differ p (spreadG p W ord) + sumF (fun w => min (shareP p w) (evenRoom W ord w)) W = 16 := by
  have hd : differ p (spreadG p W ord) = missing (keepG W p (evenRoom W ord)).1 := by
    refine differ_flags (by rw [spread_len hp, hp.len]) (keepG_len W p _) fun j hj => ?_
    obtain ⟨a1, a2⟩ := fillG_at W p _ _ (keepG_len W p (evenRoom W ord)) (spread_room hp h hW) j hj
    refine ⟨a1, fun hf he => ?_⟩
    obtain ⟨w, w1, w2, w3⟩ := a2 hf
    unfold spreadG at he
    rw [w3] at he
    have e := Option.some.inj he
    rcases keepG_not W p _ hp.nn j hj hf with h1 | h1
    · omega
    · rw [← e, Int.toNat_natCast] at h1
      omega
  have h1 := kept_sum (W := W) (keepG_len W p (evenRoom W ord)) hp.nn (keepG_yes W p (evenRoom W ord))
  have h2 := flags_count (keepG W p (evenRoom W ord)).1
  rw [keepG_len, hp.len] at h2
  have h3 : sumF (keptAt p (keepG W p (evenRoom W ord)).1) W = sumF (fun w => min (shareP p w) (evenRoom W ord w)) W := sumF_congr fun w hw => by
    have e1 := keepG_at W p (evenRoom W ord) hp.nn w hw
    have e2 := keepG_room W p (evenRoom W ord) hp.nn w hw
    omega
  omega

/-- how often two places agree at a worker -/
def agreeAt : List Int → List Int → Nat → Nat
  | x :: p, y :: q, w => (if x = (w : Int) ∧ y = (w : Int) then 1 else 0) + agreeAt p q w
  | _, _, _ => 0
/-! ### even shares -/
theorem sumF_lt {f : Nat → Nat} {c n w : Nat} (h : ∀ i, i < n → f i ≤ c) (hw : w < n) (hl : f w < c) : sumF f n < n * c := by
  have h1 := sumF_set (f := f) (g := fun i => if i = w then c else f i) (w := w) hw fun i hi => if_neg hi
  simp only [if_true] at h1
  have h2 := sumF_le (f := fun i => if i = w then c else f i) (g := fun _ => c) (n := n) fun i hi => by
    split
    · exact Nat.le_refl _
    · exact h i hi
  rw [sumF_const] at h2
  omega
theorem sumF_gt {f : Nat → Nat} {c n w : Nat} (h : ∀ i, i < n → c ≤ f i) (hw : w < n) (hl : c < f w) : n * c < sumF f n := by
  have h1 := sumF_set (f := f) (g := fun i => if i = w then c else f i) (w := w) hw fun i hi => if_neg hi
  simp only [if_true] at h1
  have h2 := sumF_le (f := fun _ => c) (g := fun i => if i = w then c else f i) (n := n) fun i hi => by
    split
    · exact Nat.le_refl _
    · exact h i hi
  rw [sumF_const] at h2
  omega
/-- shares that differ by one at most -/
theorem even_bd {t : Nat → Nat} {W : Nat} (hW : 0 < W) (hs : sumF t W = 16) (he : ∀ a b, a < W → b < W → t a ≤ t b + 1) {w : Nat} (hw : w < W) : 16 / W ≤ t w ∧ t w ≤ 16 / W + 1 := by
  have hdm := Nat.div_add_mod 16 W
  have hml := Nat.mod_lt 16 hW
  constructor
  · refine Decidable.byContradiction fun hn => ?_
    have h1 := sumF_lt (f := t) (c := 16 / W) (n := W) (w := w) (fun i hi => by have := he i w hi hw; omega) hw (by omega)
    omega
  · refine Decidable.byContradiction fun hn => ?_
    have h1 := sumF_gt (f := t) (c := 16 / W + 1) (n := W) (w := w) (fun i hi => by have := he w i hw hi; omega) hw (by omega)
    rw [Nat.mul_add] at h1
    omega

/-- the best way to be even -/
theorem best {p : List Int} {W : Nat} {ord : List Nat} (h : OrdOf p W ord) (hW : 0 < W) {t : Nat → Nat} (hs : sumF t W = 16) (he : ∀ a b, a < W → b < W → t a ≤ t b + 1) :
    sumF (fun w => min (shareP p w) (t w)) W ≤ sumF (fun w => min (shareP p w) (evenRoom W ord w)) W := by
  obtain ⟨k, hk⟩ : ∃ k, 16 / W = k := ⟨_, rfl⟩
  obtain ⟨s, hs0⟩ : ∃ s, shareP p = s := ⟨_, rfl⟩
  have hdm := Nat.div_add_mod 16 W
  rw [hk] at hdm
  have hb : ∀ w, w < W → k ≤ t w ∧ t w ≤ k + 1 := fun w hw => by rw [← hk]; exact even_bd hW hs he hw
  have hdesc := h.desc
  rw [hs0] at hdesc ⊢
  -- what is beyond k
  have e1 : sumF (fun w => min (s w) (t w)) W = sumF (fun w => min (s w) k) W + sumF (fun w => if k < s w ∧ k < t w then 1 else 0) W := by
    rw [← sumF_add]
    exact sumF_congr fun w hw => by have := hb w hw; split <;> omega
  have hroom : ∀ w, evenRoom W ord w = k + if w ∈ ord.take (16 % W) then 1 else 0 := fun w => by unfold evenRoom; rw [hk]
  have e2 : sumF (fun w => min (s w) (evenRoom W ord w)) W = sumF (fun w => min (s w) k) W + sumF (fun w => if k < s w ∧ w ∈ ord.take (16 % W) then 1 else 0) W := by
    rw [← sumF_add]
    refine sumF_congr fun w hw => ?_
    rw [hroom]
    by_cases h1 : w ∈ ord.take (16 % W)
    · rw [if_pos h1]
      by_cases h2 : k < s w
      · rw [if_pos ⟨h2, h1⟩]; omega
      · rw [if_neg (fun h => h2 h.1)]; omega
    · rw [if_neg h1, if_neg (fun h => h1 h.2)]
      rfl
  rw [e1, e2]
  refine Nat.add_le_add_left ?_ _
  by_cases hall : ∀ v, v ∈ ord.take (16 % W) → k < s v
  · -- all of the first ones count
    have h1 : sumF (fun w => if k < s w ∧ w ∈ ord.take (16 % W) then 1 else 0) W = 16 % W := by
      refine Eq.trans (sumF_congr fun w _ => ?_) (extra_sum h hW)
      by_cases hm : w ∈ ord.take (16 % W)
      · rw [if_pos ⟨hall w hm, hm⟩, if_pos hm]
      · rw [if_neg (fun h => hm h.2), if_neg hm]
    have h2 : sumF (fun w => if k < s w ∧ k < t w then 1 else 0) W ≤ sumF (fun w => t w - k) W := sumF_le fun w hw => by have := hb w hw; split <;> omega
    have h3 := sumF_add (fun _ => k) (fun w => t w - k) W
    rw [sumF_const, sumF_congr (g := t) fun w hw => by have := hb w hw; omega] at h3
    omega
  · -- one of the first ones has k at most: so have all the others
    obtain ⟨v, hv, hsv⟩ : ∃ v, v ∈ ord.take (16 % W) ∧ ¬ k < s v := by
      refine Classical.byContradiction fun hn => hall fun v hv => Classical.byContradiction fun hl => hn ⟨v, hv, hl⟩
    refine sumF_le fun w hw => ?_
    by_cases h1 : k < s w
    · have hm : w ∈ ord.take (16 % W) := by
        refine Classical.byContradiction fun hn => ?_
        have hmo : w ∈ ord := h.mem.2 hw
        rw [← List.take_append_drop (16 % W) ord] at hmo hdesc
        rcases List.mem_append.1 hmo with hm | hm
        · exact hn hm
        · have := (List.pairwise_append.1 hdesc).2.2 v hv w hm
          omega
      simp only [h1, hm, true_and, if_true]
      split <;> omega
    · rw [if_neg (fun h => h1 h.1)]
      exact Nat.zero_le _

/-- what is even already stays -/
theorem stays {q : List Int} {W : Nat} {ord : List Nat} (hq : PlaceOf q) (hb : ∀ x ∈ q, 0 ≤ x ∧ x < W) (h : OrdOf q W ord) (hW : 0 < W) (he : ∀ a b, a < W → b < W → shareP q a ≤ shareP q b + 1) : spreadG q W ord = q := by
  have hs : sumF (shareP q) W = 16 := by rw [count_sum hb, hq.len]
  have h1 := best h hW hs he
  have h2 := spread_moves hq h hW
  have h3 : sumF (fun w => min (shareP q w) (shareP q w)) W = 16 := by rw [← hs]; exact sumF_congr fun w _ => Nat.min_self _
  have h4 : differ q (spreadG q W ord) = 0 := by omega
  have key : ∀ {a b : List Int}, a.length = b.length → differ a b = 0 → b = a := by
    intro a
    induction a with
    | nil => intro b hl _; cases b with
      | nil => rfl
      | cons => simp at hl
    | cons x a ih => intro b hl hd; cases b with
      | nil => simp at hl
      | cons y b =>
        unfold differ at hd
        by_cases hx : x = y
        · have hi := ih (b := b) (by simpa using hl) (by omega)
          rw [hi, hx]
        · rw [if_pos hx] at hd; omega
  exact key (by rw [spread_len hq, hq.len]) h4

end Go.Proofs.YtbkpfhhhbhaecaaDoor
end

/-
  Places: the small functions, walked.
-/
section
set_option linter.unusedVariables false
set_option linter.unusedSimpArgs false
namespace Go.Proofs.YtbkpfhhhbhaecaaDoor
open Go.Vc


/-! ### in plain Lean -/
def minZ : List Int → Int
  | [] => 0
  | x :: r => r.foldl min x
def maxZ : List Int → Int
  | [] => 0
  | x :: r => r.foldl max x
def rightZ (p : List Int) (W : Int) : Bool := decide (1 ≤ W) && (decide (W ≤ 8) && (decide ((p.length : Int) = 16) && (decide (0 ≤ minZ p) && decide (maxZ p < W))))
/-- indices -/
def idxP (f : Nat → Bool) (n : Nat) : List Int := ((List.range n).filter f).map fun i => ((i : Nat) : Int)
def ofP (p : List Int) (w : Int) : List Int := idxP (fun i => decide (p[i]? = some w)) p.length
def movedP (a b : List Int) : List Int := if a.length = 16 ∧ b.length = 16 then idxP (fun i => decide (a[i]? ≠ b[i]?)) 16 else []
def evenAt (W : Int) (b : Nat) : Int := ((b : Int) * W).tdiv 16
def evenP (W : Int) : List Int := if W < 1 ∨ 8 < W then [] else (List.range 16).map (evenAt W)

/-! ### walked -/
section
variable {W w : World} {R G : List Own} {Φ PS : PW} {p q : Option Addr} {cap cap2 : Nat} {l a b : List Int}

end
end Go.Proofs.YtbkpfhhhbhaecaaDoor
end

/-
  Places: shares, rooms, walked.
-/
section
set_option linter.unusedVariables false
set_option linter.unusedSimpArgs false
namespace Go.Proofs.YtbkpfhhhbhaecaaDoor
open Go.Vc


/-! ### arrays of eight -/
def cells8 (f : Nat → Int) : List Value := (List.range 8).map fun i => intv (f i)
/-! ### keeping, step by step -/
section
variable {Φ : PW} {p : Option Addr} {cap : Nat} {l : List Int}

end
end Go.Proofs.YtbkpfhhhbhaecaaDoor
end

/-
  Spread, walked.
-/
section
set_option linter.unusedVariables false
set_option linter.unusedSimpArgs false
namespace Go.Proofs.YtbkpfhhhbhaecaaDoor
open Go.Vc


/-- an array of rooms: none beyond the workers -/
def arrR (N : Nat) (room : Nat → Nat) : List Value := cells8 fun w => if w < N then (room w : Int) else 0
section
variable {W w : World} {S : List Own} {Φ : PW} {k : Nat} {f : Nat → Int} {t : TypeId}
end

def rangeZ (n : Nat) : List Int := (List.range n).map fun j => ((j : Nat) : Int)
/-- the order by shares -/
def cmpS (l : List Int) (x y : Int) : Int := (shareP l y.toNat : Int) - (shareP l x.toNat : Int)
/-! ### filling, step by step -/
def fillRoom (W : Nat) : List Bool → (Nat → Nat) → (Nat → Nat)
  | [], room => room
  | true :: fl, room => fillRoom W fl room
  | false :: fl, room => fillRoom W fl (fun i => if i = firstG room W 0 then room i - 1 else room i)
end Go.Proofs.YtbkpfhhhbhaecaaDoor
end

/-
  Spread, walked.
-/
section
set_option linter.unusedVariables false
set_option linter.unusedSimpArgs false
namespace Go.Proofs.YtbkpfhhhbhaecaaDoor
open Go.Vc


def shareL (l : List Int) : List Int := (List.range 8).map fun w => (shareP l w : Int)
/-- the positions of those that are not kept -/
def restP (fl : List Bool) (i : Nat) : List Int := idxP (fun j => decide (fl[j]? = some false)) i

/-- half filled -/
def mixP (q l : List Int) (b : Nat) : List Int := q.take b ++ l.drop b
end Go.Proofs.YtbkpfhhhbhaecaaDoor
end

/-
  The law PlaceSpread, walked.
-/
section
set_option linter.unusedVariables false
set_option linter.unusedSimpArgs false
namespace Go.Proofs.YtbkpfhhhbhaecaaDoor
open Go.Vc


section
variable {Φ : PW} {p q : Option Addr} {cap cap2 : Nat} {l a b : List Int} {W w : World} {R G : List Own}

end
end Go.Proofs.YtbkpfhhhbhaecaaDoor
end

/-
  Even and SameInts, walked; the law's small(), walked.
-/
section
set_option linter.unusedVariables false
set_option linter.unusedSimpArgs false
namespace Go.Proofs.YtbkpfhhhbhaecaaDoor
open Go.Vc


section
variable {Φ : PW} {p q : Option Addr} {cap cap2 : Nat} {l a b : List Int} {W w : World} {R G : List Own}

end
end Go.Proofs.YtbkpfhhhbhaecaaDoor
end

/-
  small(), walked.
-/
section
set_option linter.unusedVariables false
set_option linter.unusedSimpArgs false
namespace Go.Proofs.YtbkpfhhhbhaecaaDoor
open Go.Vc


abbrev e3 : List Int := [0, 0, 0, 0, 0, 0, 1, 1, 1, 1, 1, 2, 2, 2, 2, 2]
abbrev e32 : List Int := [0, 0, 0, 0, 0, 0, 1, 1, 1, 1, 1, 0, 0, 1, 1, 1]
abbrev vz : List ValD := [⟨0, 0, ByteArray.mk #[]⟩]
end Go.Proofs.YtbkpfhhhbhaecaaDoor
end

/-
  Move, walked; what Move and Even give, in plain Lean.
-/
section
set_option linter.unusedVariables false
set_option linter.unusedSimpArgs false
namespace Go.Proofs.YtbkpfhhhbhaecaaDoor
open Go.Vc


/-! ### plain -/
section
variable {Φ : PW} {p q : Option Addr} {cap cap2 : Nat} {l a b : List Int} {W w : World} {R G : List Own}

def moveOk (l : List Int) (bk wk n : Int) : Prop := rightZ l n = true ∧ 0 ≤ bk ∧ bk < 16 ∧ 0 ≤ wk ∧ wk < n

end
end Go.Proofs.YtbkpfhhhbhaecaaDoor
end

/-
  The law PlaceMoves, walked.
-/
section
set_option linter.unusedVariables false
set_option linter.unusedSimpArgs false
namespace Go.Proofs.YtbkpfhhhbhaecaaDoor
open Go.Vc


section
variable {Φ : PW} {p q : Option Addr} {cap cap2 : Nat} {l a b : List Int} {W w : World} {R G : List Own}

end
end Go.Proofs.YtbkpfhhhbhaecaaDoor
end

/-
  Keys of nodes, and what a node needs: walked.
-/
section
set_option linter.unusedVariables false
set_option linter.unusedSimpArgs false
namespace Go.Proofs.YtbkpfhhhbhaecaaDoor
open Go.Vc


/-- the cells of a node: 0 Op, 1 In, 8 Key, 9 Key2 -/
structure NodeC where
  n0 : Int
  n1P : Option Addr
  n1N : Nat
  n1C : Nat
  n2 : ByteArray
  n3 : Int
  n4P : Option Addr
  n4N : Nat
  n4C : Nat
  n5 : Int
  n6 : Int
  n7 : Int
  n8P : Option Addr
  n8N : Nat
  n8C : Nat
  n9P : Option Addr
  n9N : Nat
  n9C : Nat
  n10 : Int
  n11 : Int
  n12 : Int
  n13P : Option Addr
  n13N : Nat
  n13C : Nat
  n14P : Option Addr
  n14N : Nat
  n14C : Nat
  n15P : Option Addr
  n15N : Nat
  n15C : Nat

abbrev NodeC.cells (x : NodeC) : List Value := [.int .i64 x.n0, .slice x.n1P x.n1N x.n1C, .string x.n2, .int .i64 x.n3, .slice x.n4P x.n4N x.n4C, .int .i64 x.n5, .int .i64 x.n6, .int .i64 x.n7, .slice x.n8P x.n8N x.n8C, .slice x.n9P x.n9N x.n9C,
  .int .i64 x.n10, .int .i64 x.n11, .int .i64 x.n12, .slice x.n13P x.n13N x.n13C, .slice x.n14P x.n14N x.n14C, .slice x.n15P x.n15N x.n15C]
abbrev NodeC.v (x : NodeC) : Value := .agg #[.int .i64 x.n0, .slice x.n1P x.n1N x.n1C, .string x.n2, .int .i64 x.n3, .slice x.n4P x.n4N x.n4C, .int .i64 x.n5, .int .i64 x.n6, .int .i64 x.n7, .slice x.n8P x.n8N x.n8C, .slice x.n9P x.n9N x.n9C,
  .int .i64 x.n10, .int .i64 x.n11, .int .i64 x.n12, .slice x.n13P x.n13N x.n13C, .slice x.n14P x.n14N x.n14C, .slice x.n15P x.n15N x.n15C]

structure ColD where
  name : ByteArray
  type : Int
  unit : ByteArray
instance : Gv ColD := Gv.via (β := ByteArray × Int × ByteArray) (fun x => (x.name, x.type, x.unit)) (fun y => ⟨y.1, y.2.1, y.2.2⟩) (fun _ => rfl)

structure NodeD where
  op : Int
  inp : List Int
  src : ByteArray
  schema : Int
  exprs : Opq
  kind : Int
  size : Int
  step : Int
  key : List Int
  key2 : List Int
  before : Int
  after : Int
  keep : Int
  aggs : Opq
  seq : Opq
  cols : List ColD
instance : Gv NodeD := Gv.via (β := Int × List Int × ByteArray × Int × Opq × Int × Int × Int × List Int × List Int × Int × Int × Int × Opq × Opq × List ColD)
  (fun x => (x.op, x.inp, x.src, x.schema, x.exprs, x.kind, x.size, x.step, x.key, x.key2, x.before, x.after, x.keep, x.aggs, x.seq, x.cols))
  (fun y => ⟨y.1, y.2.1, y.2.2.1, y.2.2.2.1, y.2.2.2.2.1, y.2.2.2.2.2.1, y.2.2.2.2.2.2.1, y.2.2.2.2.2.2.2.1, y.2.2.2.2.2.2.2.2.1, y.2.2.2.2.2.2.2.2.2.1, y.2.2.2.2.2.2.2.2.2.2.1, y.2.2.2.2.2.2.2.2.2.2.2.1, y.2.2.2.2.2.2.2.2.2.2.2.2.1, y.2.2.2.2.2.2.2.2.2.2.2.2.2.1, y.2.2.2.2.2.2.2.2.2.2.2.2.2.2.1, y.2.2.2.2.2.2.2.2.2.2.2.2.2.2.2⟩) (fun _ => rfl)

/-- the cells stand for the node: its number, its inputs and its keys -/
structure NodeC.Of (x : NodeC) (d : NodeD) : Prop where
  op : x.n0 = d.op
  inp : x.n1N = d.inp.length
  key : x.n8N = d.key.length
  key2 : x.n9N = d.key2.length
def NodeC.At (x : NodeC) (d : NodeD) : PW := fun M w => Sl M w x.n1P d.inp ∧ Sl M w x.n8P d.key ∧ Sl M w x.n9P d.key2
instance instStableNodeAt (x : NodeC) (d : NodeD) : Stable (fun M w => x.At d M w) := by unfold NodeC.At; infer_instance
/-! ### plain -/
def keyK (op inx : Int) : Nat :=
  if (decide (inx = 0) && (decide (op = 6) || decide (op = 7) || decide (op = 4) || decide (op = 5) || decide (op = 8))) = true then 1
  else if (decide (inx = 1) && (decide (op = 6) || decide (op = 7))) = true then 2 else 0
def keyL (d : NodeD) (inx : Int) : List Int := if keyK d.op inx = 1 then d.key else if keyK d.op inx = 2 then d.key2 else []
def keyB (d : NodeD) (inx : Int) : Bool := decide (keyK d.op inx ≠ 0)
abbrev zeroV : ValD := ⟨0, 0, ByteArray.mk #[]⟩
def valAt (row : List ValD) (i : Int) : ValD := if 0 ≤ i ∧ i < row.length then row.getD i.toNat zeroV else zeroV
def valsP (row : List ValD) (key : List Int) : List ValD := key.map (valAt row)
def shortB (r : List ValD) (n : Int) : Bool := (r.all fun v => decide (v.text.size ≤ 300)) && decide ((r.length : Int) ≤ n)

/-! ### walked -/
abbrev ValD.cells (x : ValD) : List Value := [.int .i64 x.kind, .int .i64 x.num, .string x.text]
theorem val_rep {M : List Nat} {w : World} {v : ValD} (h : (I64 v.kind ∧ I64 v.num) ∧ v.text.size ≤ maxLen) : Gv.rep M w v.cells v :=
  ⟨[.int .i64 v.kind], [.int .i64 v.num, .string v.text], rfl, ⟨rfl, h.1.1⟩, [.int .i64 v.num], [.string v.text], rfl, ⟨rfl, h.1.2⟩, rfl, h.2⟩
section
variable {Φ : PW} {p q : Option Addr} {cap cap2 : Nat} {r a b : List ValD} {W w : World} {R G : List Own}

theorem Short_in [Stable Φ] {n : Int} [hΦ : Has Φ (fun M w => Sl M w p r)] (hlen : r.length ≤ maxLen) : GivesIn Φ Tryd.prog F.errataref03_Short #[.slice p r.length cap, .int .i64 n] (.bool (shortB r n)) := by
  refine .there (fun M w h => (hΦ.go M w h).there) fun hta => ?_
  refine gives_in (Berrataref03_Short_run p r.length cap n) fun W R => ?_
  refine exI_mk (fun n R' Φ' k => ∃ i : Nat, n = i ∧ i ≤ r.length ∧ R' = R ∧ Φ' = Φ ∧ k = r.length - i ∧ ∀ v ∈ r.take i, v.text.size ≤ 300) ⟨⟨R, Φ, _, inferInstance, fun w F c => c, 0, rfl, Nat.zero_le _, rfl, rfl, rfl, by simp⟩, ?_⟩
  rintro n R1 Φ1 k _ ⟨i, rfl, hi, rfl, rfl, rfl, hs⟩
  refine Br.intro (fun hlt => ?_) (fun hge => fun w G cx => ⟨?_, cx.left⟩)
  · have hlt : i < r.length := by have := of_decide_eq_true hlt; omega
    obtain ⟨g1, o1, rfl⟩ := hta (by omega)
    refine ⟨by omega, ptrK_intro g1 o1 rfl fun w G cx => ⟨r[i].text, ?_, Br.intro (fun h => fun w G cx => ⟨?_, cx.left⟩) (fun h => ⟨by unfold I64; unfold maxLen at hlen; omega, R1, Φ1, r.length - (i + 1), inferInstance, fun w G cx => cx, ⟨i + 1, rfl, hlt, rfl, rfl, rfl, ?_⟩, by omega⟩)⟩⟩
    · rw [Int.toNat_natCast]
      exact sl_val (hΦ.go _ _ cx.phi) hlt 2 (by simp)
    · have h := of_decide_eq_true h
      unfold shortB
      rw [List.all_eq_false.2 ⟨r[i], List.getElem_mem _, by simp; omega⟩]; rfl
    · have h := of_decide_eq_false h
      rw [List.take_succ_eq_append_getElem hlt]
      intro v hv
      rcases List.mem_append.1 hv with hv | hv
      · exact hs v hv
      · rw [List.mem_singleton.1 hv]; omega
  · have hge : i = r.length := by have := of_decide_eq_false hge; omega
    subst hge
    rw [List.take_length] at hs
    unfold shortB
    rw [List.all_eq_true.2 fun v hv => decide_eq_true (hs v hv)]; rfl

def needP (d : NodeD) (inx bucket : Int) (r : List ValD) : Int := if keyB d inx = true then bucketP (valsP r (keyL d inx)) else bucket

end
end Go.Proofs.YtbkpfhhhbhaecaaDoor
end

/-
  What the laws of ledgers do themselves: residues, batches that fit, bounds; the reference's net; counts and causes; a new ledger.
-/
section
set_option linter.unusedVariables false
set_option linter.unusedSimpArgs false
namespace Go.Proofs.YtbkpfhhhbhaecaaDoor
open Go.Vc


/-! ### plain -/
structure PushD where
  batch : Int
  mark : Int
  l : List LineD
  fit : Bool
instance : Gv PushD := Gv.via (β := Int × Int × List LineD × Bool) (fun x => (x.batch, x.mark, x.l, x.fit)) (fun y => ⟨y.1, y.2.1, y.2.2.1, y.2.2.2⟩) (fun _ => rfl)
abbrev PushD.cells (x : PushD) (p : Option Addr) (c : Nat) : List Value := [.int .i64 x.batch, .int .i64 x.mark, .slice p x.l.length c, .bool x.fit]
abbrev PushD.v (x : PushD) (p : Option Addr) (c : Nat) : Value := .agg #[.int .i64 x.batch, .int .i64 x.mark, .slice p x.l.length c, .bool x.fit]
theorem push_cells {M : List Nat} {w : World} {cs : List Value} {x : PushD} (h : Gv.rep M w cs x) : ∃ p c, cs = x.cells p c ∧ x.l.length ≤ c ∧ c ≤ maxLen ∧ I64 x.batch ∧ I64 x.mark ∧ Sl M w p x.l := by
  obtain ⟨_, _, rfl, ⟨rfl, h1⟩, _, _, rfl, ⟨rfl, h2⟩, _, _, rfl, ⟨p, c, rfl, g1, g2, g3⟩, h4⟩ := h
  exact ⟨p, c, by rw [h4]; rfl, g1, g2, h1, h2, g3⟩

def modP (n m : Int) : Int := if n.tmod m < 0 then n.tmod m + m else n.tmod m
theorem mod_bd {n m : Int} (h : 0 < m) : 0 ≤ modP n m ∧ modP n m < m := by
  have h1 := Int.tmod_lt_of_pos n h
  have h2 : -m < n.tmod m := by
    have := Int.tmod_lt_of_pos (-n) h
    rw [Int.neg_tmod] at this; omega
  unfold modP
  split <;> omega
def fitL (next nb mark nm : Int) (i : Nat) (x : LineD) : LineD :=
  ⟨next + i, nb, modP x.time (max (nm + 1) 1), x.row, x.n, if x.cause ≠ 2 then (if modP x.time (max (nm + 1) 1) ≤ mark then 1 else 0) else x.cause, x.why⟩
def fitLs (next nb mark nm : Int) (l : List LineD) : List LineD := l.mapIdx (fitL next nb mark nm)
def fitP (x : PushD) (last mark next : Int) : PushD :=
  if x.fit = true then ⟨w64 (w64 (last + 1) + modP x.batch 3), mark + modP x.mark 20, fitLs next (w64 (w64 (last + 1) + modP x.batch 3)) mark (mark + modP x.mark 20) x.l, true⟩ else x
theorem fitLs_len (next nb mark nm : Int) (l : List LineD) : (fitLs next nb mark nm l).length = l.length := by unfold fitLs; simp
theorem fitLs_row (next nb mark nm : Int) (l : List LineD) : ∀ x ∈ fitLs next nb mark nm l, ∃ y ∈ l, x.row = y.row := fun x hx => by
  unfold fitLs at hx
  obtain ⟨i, hi, rfl⟩ := List.getElem_of_mem hx
  rw [List.getElem_mapIdx]
  exact ⟨_, List.getElem_mem _, rfl⟩
theorem fitP_len (x : PushD) (last mark next : Int) : (fitP x last mark next).l.length = x.l.length := by
  unfold fitP
  split
  · exact fitLs_len _ _ _ _ _
  · rfl
theorem fitP_row (x : PushD) (last mark next : Int) : ∀ y ∈ (fitP x last mark next).l, ∃ z ∈ x.l, y.row = z.row := fun y hy => by
  unfold fitP at hy
  split at hy
  · exact fitLs_row _ _ _ _ _ y hy
  · exact ⟨y, hy, rfl⟩
def midL (next nb mark nm : Int) (l : List LineD) (i : Nat) : List LineD := (fitLs next nb mark nm l).take i ++ l.drop i
theorem midL_len (next nb mark nm : Int) (l : List LineD) {i : Nat} (h : i ≤ l.length) : (midL next nb mark nm l i).length = l.length := by
  unfold midL
  rw [List.length_append, List.length_take, List.length_drop, fitLs_len]; omega
theorem midL_at (next nb mark nm : Int) (l : List LineD) {i : Nat} (h : i < l.length) : (midL next nb mark nm l i)[i]? = some l[i] := by
  unfold midL
  rw [List.getElem?_append_right (by rw [List.length_take, fitLs_len]; omega), List.length_take, fitLs_len, show min i l.length = i by omega, Nat.sub_self, List.getElem?_drop, Nat.add_zero, List.getElem?_eq_getElem h]
theorem midL_step (next nb mark nm : Int) (l : List LineD) {i : Nat} (h : i < l.length) : (midL next nb mark nm l i).set i (fitL next nb mark nm i l[i]) = midL next nb mark nm l (i + 1) := by
  have hl : ((fitLs next nb mark nm l).take i).length = i := by rw [List.length_take, fitLs_len]; omega
  unfold midL
  rw [List.set_append_right _ _ (by omega), hl, Nat.sub_self, List.drop_eq_getElem_cons h, List.set_cons_zero, List.take_succ_eq_append_getElem (by rw [fitLs_len]; exact h), List.append_assoc]
  congr 1
  unfold fitLs
  rw [List.getElem_mapIdx]
  rfl

def shortL (l : List LineD) (n : Int) : Bool := (l.all fun x => shortB x.row 13) && decide ((l.length : Int) ≤ n)
def fewL (l : List PushD) (n : Int) : Bool := (l.all fun x => shortL x.l 12) && decide ((l.length : Int) ≤ n)

section
variable {Φ : PW} {q : LP} {st : LedD} {W w : World} {R S G : List Own} {p : Option Addr} {cap : Nat} {l : List LineD} {cs : List Value}

theorem mod_g {n m : Int} (h : 0 < m) (hm : m ≤ 4611686018427387904) : Gives Tryd.prog F.erratalaw41_mod #[.int .i64 n, .int .i64 m] (.int .i64 (modP n m)) := by
  have hb := mod_bd (n := n) h
  refine gives_of (Berratalaw41_mod_run n m) fun W R Φ _ => ⟨fun e => by omega, Br.intro (fun h1 => ⟨?_, fun w G c => ⟨?_, c.left⟩⟩) (fun h1 => fun w G c => ⟨?_, c.left⟩)⟩
  · have e : n.tmod m + m = modP n m := by unfold modP; rw [if_pos (of_decide_eq_true h1)]
    rw [e]; unfold I64; omega
  · unfold modP; rw [if_pos (of_decide_eq_true h1)]
  · unfold modP; rw [if_neg (of_decide_eq_false h1)]

/-- a cell of a row is read -/
theorem l_get {g n : Nat} (cx : Ctx W w (bufL (some ⟨g, 0, none⟩) n cap cs :: S) (fun M w => Φ M w ∧ Elems M w cs l)) {i k : Nat} {y : LineD} (hy : l[i]? = some y) {v : Value} (hv : ∀ p c, (y.cells p c)[k]? = some v) : w.cell? ⟨g, i * 7 + k, none⟩ = some v := by
  obtain ⟨hi, rfl⟩ := List.getElem?_eq_some_iff.1 hy
  obtain ⟨p, c, hp, _⟩ := lrow cx.phi.2 hi
  have hk := hv p c
  obtain ⟨hkl, hkv⟩ := List.getElem?_eq_some_iff.1 hk
  have := l_at cx hp k hkl
  rw [this, hkv]
/-- a cell of a row is written -/
theorem l_cellI [Stable Φ] {w' : World} {g n : Nat} (cx : Ctx W w (bufL (some ⟨g, 0, none⟩) n cap cs :: S) (fun M w => Φ M w ∧ Elems M w cs l)) {i : Nat} (x : LineD) {y : LineD} (hy : l[i]? = some y) {k : Nat} {v : Value}
    (hk : k < 7) (hr : x.row = y.row) (hx : ∀ p c, (y.cells p c).set k v = x.cells p c) (hin : y.In → x.In) (e : w' = w.setCell ⟨g, i * 7 + k, none⟩ v) :
    ∃ cs', Ctx W w' (bufL (some ⟨g, 0, none⟩) n cap cs' :: S) (fun M w => Φ M w ∧ Elems M w cs' (l.set i x)) := by
  obtain ⟨hi, rfl⟩ := List.getElem?_eq_some_iff.1 hy
  obtain ⟨cs', _, h⟩ := l_cell cx hi x hk hr hx hin e
  exact ⟨cs', h⟩
theorem l_canI {g n : Nat} (cx : Ctx W w (bufL (some ⟨g, 0, none⟩) n cap cs :: S) (fun M w => Φ M w ∧ Elems M w cs l)) {i k : Nat} (hi : i < l.length) (hk : k < 7) : CanWrite w g (i * 7 + k) 1 := by
  have := elems_len7 cx.phi.2
  exact l_can cx (by omega)

set_option maxHeartbeats 4000000 in
theorem fitted_to [Stable Φ] {x : PushD} {last mark next : Int} [hΦ : Has Φ (fun M w => Sl M w p x.l)] (hc1 : x.l.length ≤ cap) (hc2 : cap ≤ maxLen) (hlen : x.l.length ≤ 100000) (hm : -1 ≤ mark ∧ mark ≤ 1099511627776) (hn : 0 ≤ next ∧ next ≤ 10000000) (c : Ctx W w (R ++ G) Φ) {K : Int → Int → Option Addr → Nat → Nat → Bool → List Own → PW → Prop}
    (h : ∀ p' c', (fitP x last mark next).l.length ≤ c' → c' ≤ maxLen → There p' (fitP x last mark next).l.length → Stable (fun M w => Φ M w ∧ Sl M w p' (fitP x last mark next).l) → K (fitP x last mark next).batch (fitP x last mark next).mark p' (fitP x last mark next).l.length c' (fitP x last mark next).fit R (fun M w => Φ M w ∧ Sl M w p' (fitP x last mark next).l)) :
    Calls Tryd.prog F.erratalaw41_fitted #[x.v p cap, .int .i64 last, .int .i64 mark, .int .i64 next] w fun e w' => ∃ a b p' k c' f, e = .returned (.agg #[.int .i64 a, .int .i64 b, .slice p' k c', .bool f]) ∧ ∃ R' Φ', Stable Φ' ∧ Ctx W w' (R' ++ G) Φ' ∧ K a b p' k c' f R' Φ' := by
  refine (Berratalaw41_fitted_run x.batch x.mark p x.l.length cap x.fit last mark next (R := R ++ G) (J := fun v w' => ∃ a b p' k c' f, v = .agg #[.int .i64 a, .int .i64 b, .slice p' k c', .bool f] ∧ ∃ R' Φ', Stable Φ' ∧ Ctx W w' (R' ++ G) Φ' ∧ K a b p' k c' f R' Φ') c ?_).mono fun e w' ⟨v, he, a, b, p', k, c', f, hv, rest⟩ => ⟨a, b, p', k, c', f, by rw [he, hv], rest⟩
  have hth := (hΦ.go _ _ c.phi).there
  clear c
  refine fun _ _ => Br.intro (fun hf => fun w G2 cx => ?_) (fun hf => ?_)
  · have hf : x.fit = false := by simpa using hf
    have e : fitP x last mark next = x := by unfold fitP; rw [if_neg (by rw [hf]; simp)]
    rw [e] at h
    exact ⟨_, _, _, _, _, _, rfl, R, _, inferInstance, cx.left.weak fun M w h => ⟨h, hΦ.go M w h⟩, h p cap hc1 hc2 hth inferInstance⟩
  have hf : x.fit = true := by simpa using hf
  have m1 := mod_bd (n := x.batch) (m := 3) (by omega)
  have m2 := mod_bd (n := x.mark) (m := 20) (by omega)
  obtain ⟨nb, hnb⟩ : ∃ nb, w64 (w64 (last + 1) + modP x.batch 3) = nb := ⟨_, rfl⟩
  obtain ⟨nm, hnm⟩ : ∃ nm, mark + modP x.mark 20 = nm := ⟨_, rfl⟩
  have hnb64 : I64 nb := by rw [← hnb]; exact w64_in _
  have e : fitP x last mark next = ⟨nb, nm, fitLs next nb mark nm x.l, true⟩ := by unfold fitP; rw [if_pos hf, hnb, hnm]
  rw [e] at h
  simp only at h
  refine fun w G2 cx => (mod_g (n := x.batch) (m := 3) (by omega) (by omega)).use cx fun w c => ⟨_, rfl, R ++ G, Φ, inferInstance, c, ?_⟩
  clear cx c
  refine fun w G2 cx => (mod_g (n := x.mark) (m := 20) (by omega) (by omega)).use cx fun w c => ⟨_, rfl, R ++ G, Φ, inferInstance, c, ?_⟩
  clear cx c
  rw [show IntKind.i64.wrap (IntKind.i64.wrap (last + 1) + modP x.batch 3) = nb from hnb, hnm]
  refine ⟨by unfold I64; omega, fun kb w G2 cx => ?_⟩
  have cx1 : Ctx W w (bufL (some ⟨kb, 0, none⟩) 0 0 [] :: ((R ++ G) ++ G2)) Φ := cx.toBuf 0 0 7 rfl (by simp) (by simp [maxLen])
  obtain ⟨p1, c1, w1, news, hrun, cx2⟩ := Ctx.appAny (P := Tryd.prog) (ts := 57) (ty := 57) (kb := #[false, false]) (bytes := 72) (c2 := cap) (l := x.l) (q := p) cx1 (by kernel_rfl) line_one hΦ.go (by omega) (by omega)
  rw [Nat.zero_add] at hrun cx2
  refine ⟨p1, x.l.length, c1, w1, hrun, bufL p1 x.l.length c1 news :: (R ++ G), (fun M w => Φ M w ∧ Elems M w news x.l), inferInstance, cx2, ?_⟩
  have hel := cx2.phi.2
  have hpt : 0 < x.l.length → ∃ g, p1 = some ⟨g, 0, none⟩ := fun h0 => l_ptr cx2 (by show 0 < news.length; rw [elems_len7 hel]; omega)
  clear cx cx1 cx2 hel hrun
  have hmid0 : midL next nb mark nm x.l 0 = x.l := by unfold midL; simp
  refine exI_mk (fun iI R' Φ' k => ∃ (i : Nat) (cs : List Value), iI = i ∧ i ≤ x.l.length ∧ R' = bufL p1 x.l.length c1 cs :: (R ++ G) ∧ Φ' = (fun M w => Φ M w ∧ Elems M w cs (midL next nb mark nm x.l i)) ∧ k = x.l.length - i) ⟨⟨_, _, _, instStableAnd Φ (fun M w => Elems M w news x.l), fun w G cx => cx, 0, news, rfl, Nat.zero_le _, rfl, by rw [hmid0], rfl⟩, ?_⟩
  rintro iI R1 Φ1 k _ ⟨i, cs, rfl, hi, rfl, rfl, rfl⟩
  have hml := midL_len next nb mark nm x.l hi
  refine Br.intro (fun hlt => ?_) (fun hge => fun w G3 cx => ?_)
  · have hlt : i < x.l.length := by have := of_decide_eq_true hlt; omega
    obtain ⟨g, rfl⟩ := hpt (by omega)
    have hat := midL_at next nb mark nm x.l hlt
    have hstep := midL_step next nb mark nm x.l hlt
    obtain ⟨B, hB⟩ : ∃ B, midL next nb mark nm x.l i = B := ⟨_, rfl⟩
    rw [hB] at hml hat hstep ⊢
    have hiB : i < B.length := by omega
    have set2 : ∀ (a b : LineD), (B.set i a).set i b = B.set i b := fun a b => List.set_set ..
    have at2 : ∀ a : LineD, (B.set i a)[i]? = some a := fun a => List.getElem?_set_self hiB
    have ln2 : ∀ a : LineD, i < (B.set i a).length := fun a => by rw [List.length_set]; exact hiB
    have m3 := mod_bd (n := x.l[i].time) (m := max (nm + 1) 1) (by omega)
    obtain ⟨y, hy⟩ : ∃ y, x.l[i] = y := ⟨_, rfl⟩
    rw [hy] at hat hstep m3
    obtain ⟨t, ht⟩ : ∃ t, modP y.time (max (nm + 1) 1) = t := ⟨_, rfl⟩
    rw [ht] at m3
    obtain ⟨x1, hx1⟩ : ∃ x1 : LineD, x1 = ⟨next + i, y.batch, y.time, y.row, y.n, y.cause, y.why⟩ := ⟨_, rfl⟩
    obtain ⟨x2, hx2⟩ : ∃ x2 : LineD, x2 = ⟨next + i, nb, y.time, y.row, y.n, y.cause, y.why⟩ := ⟨_, rfl⟩
    obtain ⟨x3, hx3⟩ : ∃ x3 : LineD, x3 = ⟨next + i, nb, t, y.row, y.n, y.cause, y.why⟩ := ⟨_, rfl⟩
    have st0 : ∀ (c : List Value) (l : List LineD), Stable (fun M w => Φ M w ∧ Elems M w c l) := fun c l => instStableAnd Φ (fun M w => Elems M w c l)
    have off : ∀ k : Nat, 0 + (i : Int).toNat * 7 + k = i * 7 + k := fun k => by rw [Int.toNat_natCast]; omega
    have off0 : 0 + (i : Int).toNat * 7 = i * 7 + 0 := by rw [Int.toNat_natCast]; omega
    refine ⟨by unfold I64; omega, by omega, ptrK_intro g 0 rfl fun w G3 cx => ⟨by rw [off0]; exact l_canI cx hiB (by omega), fun w2 hw2 => ?_⟩⟩
    obtain ⟨csa, cxa⟩ := l_cellI (w' := w2) cx x1 hat (k := 0) (v := .int .i64 (next + i)) (by omega) (by rw [hx1]) (fun p c => by rw [hx1]; rfl) (fun hin => by rw [hx1]; exact ⟨by show I64 (next + i); unfold I64; omega, hin.batch, hin.time, hin.n, hin.cause, hin.why⟩) (by rw [hw2, off0])
    refine ⟨bufL (some ⟨g, 0, none⟩) x.l.length c1 csa :: (R ++ G), _, st0 csa (B.set i x1), cxa, ?_⟩
    clear cx cxa
    refine ⟨by omega, ptrK_intro g 0 rfl fun w G3 cx => ⟨by rw [off 1]; exact l_canI cx (ln2 x1) (by omega), fun w2 hw2 => ?_⟩⟩
    obtain ⟨csb, cxb⟩ := l_cellI (w' := w2) cx x2 (at2 x1) (k := 1) (v := .int .i64 nb) (by omega) (by rw [hx1, hx2]) (fun p c => by rw [hx1, hx2]; rfl) (fun hin => by rw [hx1] at hin; rw [hx2]; exact ⟨hin.no, hnb64, hin.time, hin.n, hin.cause, hin.why⟩) (by rw [hw2, off 1])
    rw [set2] at cxb
    refine ⟨bufL (some ⟨g, 0, none⟩) x.l.length c1 csb :: (R ++ G), _, st0 csb (B.set i x2), cxb, ?_⟩
    clear cx cxb
    refine ⟨bufL (some ⟨g, 0, none⟩) x.l.length c1 csb :: (R ++ G), _, st0 csb (B.set i x2), fun w G cx => cx, by omega, ptrK_intro g 0 rfl ⟨by unfold I64; omega, y.time, fun w G3 cx => ⟨y.time, by rw [off 2]; exact l_get cx (at2 x2) fun p c => by rw [hx2]; rfl, rfl⟩, fun w G3 cx => ?_⟩⟩
    refine (mod_g (n := y.time) (m := max (nm + 1) 1) (by omega) (by omega)).use cx fun w c => ⟨t, by rw [ht], bufL (some ⟨g, 0, none⟩) x.l.length c1 csb :: (R ++ G), _, st0 csb (B.set i x2), c, fun w G cx => cx, by omega, ptrK_intro g 0 rfl fun w G3 cx => ⟨by rw [off 2]; exact l_canI cx (ln2 x2) (by omega), fun w2 hw2 => ?_⟩⟩
    obtain ⟨csc, cxc⟩ := l_cellI (w' := w2) cx x3 (at2 x2) (k := 2) (v := .int .i64 t) (by omega) (by rw [hx2, hx3]) (fun p c => by rw [hx2, hx3]; rfl) (fun hin => by rw [hx2] at hin; rw [hx3]; exact ⟨hin.no, hin.batch, by show I64 t; unfold I64; omega, hin.n, hin.cause, hin.why⟩) (by rw [hw2, off 2])
    rw [set2] at cxc
    refine ⟨bufL (some ⟨g, 0, none⟩) x.l.length c1 csc :: (R ++ G), _, st0 csc (B.set i x3), cxc, ?_⟩
    clear cx cxc
    have done : ∀ (z : LineD) (cz : List Value), z = fitL next nb mark nm i y → ∃ (i2 : Nat) (cs : List Value), (i : Int) + 1 = i2 ∧ i2 ≤ x.l.length ∧ (bufL (some ⟨g, 0, none⟩) x.l.length c1 cz :: (R ++ G)) = bufL (some ⟨g, 0, none⟩) x.l.length c1 cs :: (R ++ G) ∧ (fun M w => Φ M w ∧ Elems M w cz (B.set i z)) = (fun M w => Φ M w ∧ Elems M w cs (midL next nb mark nm x.l i2)) ∧ x.l.length - (i + 1) = x.l.length - i2 := fun z cz hz => ⟨i + 1, cz, by omega, by omega, rfl, by rw [← hstep, hz], rfl⟩
    refine ⟨by omega, ptrK_intro g 0 rfl fun w G3 cx => ⟨y.cause, by rw [off 5]; exact l_get cx (at2 x3) fun p c => by rw [hx3]; rfl, ?_⟩⟩
    clear cx
    refine Br.intro (fun h4 => ?_) (fun h4 => ⟨by unfold I64; omega, _, _, x.l.length - (i + 1), st0 csc (B.set i x3), fun w G cx => cx, done x3 csc ?_, by omega⟩)
    · have h4 := of_decide_eq_true h4
      obtain ⟨x4, hx4⟩ : ∃ x4 : LineD, x4 = ⟨next + i, nb, t, y.row, y.n, 0, y.why⟩ := ⟨_, rfl⟩
      refine ⟨by omega, ptrK_intro g 0 rfl fun w G3 cx => ⟨by rw [off 5]; exact l_canI cx (ln2 x3) (by omega), fun w2 hw2 => ?_⟩⟩
      obtain ⟨csd, cxd⟩ := l_cellI (w' := w2) cx x4 (at2 x3) (k := 5) (v := .int .i64 0) (by omega) (by rw [hx3, hx4]) (fun p c => by rw [hx3, hx4]; rfl) (fun hin => by rw [hx3] at hin; rw [hx4]; exact ⟨hin.no, hin.batch, hin.time, hin.n, by show I64 0; unfold I64; omega, hin.why⟩) (by rw [hw2, off 5])
      rw [set2] at cxd
      refine ⟨bufL (some ⟨g, 0, none⟩) x.l.length c1 csd :: (R ++ G), _, st0 csd (B.set i x4), cxd, ?_⟩
      clear cx cxd
      refine ⟨by omega, ptrK_intro g 0 rfl fun w G3 cx => ⟨t, by rw [off 2]; exact l_get cx (at2 x4) fun p c => by rw [hx4]; rfl, ?_⟩⟩
      clear cx
      refine Br.intro (fun h5 => ?_) (fun h5 => ⟨by unfold I64; omega, _, _, x.l.length - (i + 1), st0 csd (B.set i x4), fun w G cx => cx, done x4 csd ?_, by omega⟩)
      · have h5 := of_decide_eq_true h5
        obtain ⟨x5, hx5⟩ : ∃ x5 : LineD, x5 = ⟨next + i, nb, t, y.row, y.n, 1, y.why⟩ := ⟨_, rfl⟩
        refine ⟨by omega, ptrK_intro g 0 rfl fun w G3 cx => ⟨by rw [off 5]; exact l_canI cx (ln2 x4) (by omega), fun w2 hw2 => ?_⟩⟩
        obtain ⟨cse, cxe⟩ := l_cellI (w' := w2) cx x5 (at2 x4) (k := 5) (v := .int .i64 1) (by omega) (by rw [hx4, hx5]) (fun p c => by rw [hx4, hx5]; rfl) (fun hin => by rw [hx4] at hin; rw [hx5]; exact ⟨hin.no, hin.batch, hin.time, hin.n, by show I64 1; unfold I64; omega, hin.why⟩) (by rw [hw2, off 5])
        rw [set2] at cxe
        refine ⟨bufL (some ⟨g, 0, none⟩) x.l.length c1 cse :: (R ++ G), _, st0 cse (B.set i x5), cxe, by unfold I64; omega, _, _, x.l.length - (i + 1), st0 cse (B.set i x5), fun w G cx => cx, done x5 cse ?_, by omega⟩
        rw [hx5]
        unfold fitL
        rw [ht, if_pos h4, if_pos h5]
      · rw [hx4]
        unfold fitL
        rw [ht, if_pos h4, if_neg (of_decide_eq_false h5)]
    · rw [hx3]
      unfold fitL
      rw [ht, if_neg (of_decide_eq_false h4)]
  · have hge : i = x.l.length := by have := of_decide_eq_false hge; omega
    subst hge
    have hmE : midL next nb mark nm x.l x.l.length = fitLs next nb mark nm x.l := by
      unfold midL
      rw [List.drop_length, List.append_nil, ← fitLs_len next nb mark nm x.l, List.take_length]
    rw [hmE] at cx
    have cx := cx.left
    obtain ⟨_, k1, k2⟩ := cx.bufLen 0 rfl
    obtain ⟨cx3, hs, _⟩ := Ctx.freeze (α := LineD) cx cx.phi.2
    have hl := fitLs_len next nb mark nm x.l
    refine ⟨nb, nm, p1, x.l.length, c1, x.fit, rfl, R, (fun M w => Φ M w ∧ Sl M w p1 (fitLs next nb mark nm x.l)), inferInstance, (cx3.add (Ψ := fun M w => Sl M w p1 (fitLs next nb mark nm x.l)) hs).weak fun M w h => ⟨h.1.1, h.2⟩, ?_⟩
    rw [hl] at h
    rw [hf]
    exact h p1 c1 k1 k2 (by have := hs.there; rw [hl] at this; exact this) inferInstance
end
end Go.Proofs.YtbkpfhhhbhaecaaDoor
end

/-
  Bounds of pushes; the reference's net; multisets; counts and causes; a new ledger. (The first parts are those of the texts Ef, Eg and Ex of the seat of DeltaCounts.)
-/
section
set_option linter.unusedVariables false
set_option linter.unusedSimpArgs false
namespace Go.Proofs.YtbkpfhhhbhaecaaDoor
open Go.Vc


/-! ### of the others' texts -/
def multiP (l : List DeltaD) : Bool := !(consP l).any fun x => decide (x.n < 0)

/-! ### walked -/
section
variable {Φ : PW} {q : LP} {st : LedD} {W w : World} {R S G : List Own} {p : Option Addr} {cap : Nat}

theorem Short41_in [Stable Φ] {l : List LineD} {cs : List Value} {n : Int} (src : Src [] Φ p l cs) (hlen : l.length ≤ maxLen) : GivesIn Φ Tryd.prog F.errataref41_Short #[.slice p l.length cap, .int .i64 n] (.bool (shortL l n)) := by
  refine ⟨fun W0 w0 S0 c0 => GivesIn.go (gives_in (Berrataref41_Short_run p l.length cap n) fun W R => ?_) W0 w0 S0 c0⟩
  have hc : Rows7 cs l := rows7 (src.el _ _ c0.phi)
  clear c0
  refine exI_mk (fun n R' Φ' k => ∃ i : Nat, n = i ∧ i ≤ l.length ∧ R' = R ∧ Φ' = Φ ∧ k = l.length - i ∧ (l.take i).all (fun x => shortB x.row 13) = true) ⟨⟨R, Φ, _, inferInstance, fun w F c => c, 0, rfl, Nat.zero_le _, rfl, rfl, rfl, rfl⟩, ?_⟩
  rintro n1 R1 Φ1 k _ ⟨i, rfl, hi, rfl, rfl, rfl, hs⟩
  refine Br.intro (fun hlt => ?_) (fun hge => fun w G cx => ⟨?_, cx.left⟩)
  · have hlt : i < l.length := by have := of_decide_eq_true hlt; omega
    obtain ⟨b, o, hp⟩ := src.ptr (by omega)
    obtain ⟨r, rc, he, h1, h2, _⟩ := hc i hlt
    have hh : Has Φ1 (fun M w => Sl M w r l[i].row) := ⟨fun M w h => src_sl src hlt he h⟩
    refine ⟨by omega, ptrK_intro b o hp fun w G cx => ⟨r, l[i].row.length, rc, ?_, fun w G cx => (Short_in (r := l[i].row) (by omega)).toB cx ?_⟩⟩
    · have := src_at (G := R1 ++ G) src hp cx he 3 (by simp)
      rw [Int.toNat_natCast]
      exact this
    clear cx
    refine Br.intro (fun h => fun w G cx => ⟨?_, cx.left⟩) (fun h => ⟨by unfold I64; unfold maxLen at hlen; omega, R1, Φ1, l.length - (i + 1), inferInstance, fun w G cx => cx, ⟨i + 1, rfl, hlt, rfl, rfl, rfl, ?_⟩, by omega⟩)
    · have h : shortB l[i].row 13 = false := by simpa using h
      unfold shortL
      rw [List.all_eq_false.2 ⟨l[i], List.getElem_mem _, by rw [h]; simp⟩]; rfl
    · have h : shortB l[i].row 13 = true := by simpa using h
      rw [List.take_succ_eq_append_getElem hlt, List.all_append, hs]
      simp [h]
  · have hge : i = l.length := by have := of_decide_eq_false hge; omega
    subst hge
    rw [List.take_length] at hs
    unfold shortL
    rw [hs, Bool.true_and]

theorem Short41_sl [Stable Φ] {l : List LineD} {n : Int} [hΦ : Has Φ (fun M w => Sl M w p l)] (hlen : l.length ≤ maxLen) : GivesIn Φ Tryd.prog F.errataref41_Short #[.slice p l.length cap, .int .i64 n] (.bool (shortL l n)) :=
  .there (fun M w h => (hΦ.go M w h).there) fun hth => ⟨fun W w S c => by
    obtain ⟨cs, c1⟩ := srcOf c (hΦ.go _ _ c.phi)
    exact (Short41_in (Φ := fun M w => Φ M w ∧ SrcF p l cs M w) (src_fact (Φ := fun M w => Φ M w ∧ SrcF p l cs M w) hth (fun M w h => h.2)) hlen).use c1 fun w' c => ⟨rfl, c.fst⟩⟩

/-! ### pushes -/
theorem pin_push {M : List Nat} {w : World} {b o : Nat} {cs : List (List Value)} {l : List PushD} (h : Pin b o cs l M w) {j : Nat} (hj : j < l.length) : ∃ p c, cs.getD j [] = l[j].cells p c ∧ l[j].l.length ≤ c ∧ c ≤ maxLen ∧ I64 l[j].batch ∧ I64 l[j].mark := by
  obtain ⟨_, h1, h2⟩ := h j hj
  obtain ⟨p, c, e, g1, g2, g3, g4, _⟩ := push_cells h2
  exact ⟨p, c, e, g1, g2, g3, g4⟩
theorem pinp_sl {M : List Nat} {w : World} {b o : Nat} {cs : List (List Value)} {l : List PushD} (h : Pin b o cs l M w) {j : Nat} (hj : j < l.length) {p : Option Addr} {c : Nat} (e : cs.getD j [] = l[j].cells p c) : Sl M w p l[j].l := by
  have := (h j hj).2.2
  rw [e] at this
  obtain ⟨p', c', e', _, _, _, _, h1⟩ := push_cells this
  simp only [PushD.cells, List.cons.injEq, Value.slice.injEq] at e'
  rw [e'.2.2.1.1]
  exact h1
theorem pinp_rowAt {M : List Nat} {w : World} {b o : Nat} {cs : List (List Value)} {l : List PushD} (h : Pin b o cs l M w) {j : Nat} (hj : j < l.length) {p : Option Addr} {c : Nat} (e : cs.getD j [] = l[j].cells p c) : RowAt w b (o + j * 4) (l[j].cells p c) := by
  have := (h j hj).2.1
  rw [e] at this
  exact this

theorem Few41_in [Stable Φ] {l : List PushD} {n : Int} {g o : Nat} {cs : List (List Value)} (hp : 0 < l.length → p = some ⟨g, o, none⟩) (hP : ∀ M w, Φ M w → Pin g o cs l M w) (hlen : l.length ≤ maxLen) : GivesIn Φ Tryd.prog F.erratalaw41_few #[.slice p l.length cap, .int .i64 n] (.bool (fewL l n)) := by
  refine ⟨fun W0 w0 S0 c0 => GivesIn.go (gives_in (Berratalaw41_few_run p l.length cap n) fun W R => ?_) W0 w0 S0 c0⟩
  have hc : ∀ j (hj : j < l.length), ∃ p c, cs.getD j [] = l[j].cells p c ∧ l[j].l.length ≤ c ∧ c ≤ maxLen ∧ I64 l[j].batch ∧ I64 l[j].mark := fun j hj => pin_push (hP _ _ c0.phi) hj
  clear c0
  refine exI_mk (fun n R' Φ' k => ∃ i : Nat, n = i ∧ i ≤ l.length ∧ R' = R ∧ Φ' = Φ ∧ k = l.length - i ∧ (l.take i).all (fun x => shortL x.l 12) = true) ⟨⟨R, Φ, _, inferInstance, fun w F c => c, 0, rfl, Nat.zero_le _, rfl, rfl, rfl, rfl⟩, ?_⟩
  rintro n1 R1 Φ1 k _ ⟨i, rfl, hi, rfl, rfl, rfl, hs⟩
  refine Br.intro (fun hlt => ?_) (fun hge => fun w G cx => ⟨?_, cx.left⟩)
  · have hlt : i < l.length := by have := of_decide_eq_true hlt; omega
    obtain ⟨r, rc, he, h1, h2, _⟩ := hc i hlt
    have hh : Has Φ1 (fun M w => Sl M w r l[i].l) := ⟨fun M w h => pinp_sl (hP M w h) hlt he⟩
    refine ⟨by omega, ptrK_intro g o (hp (by omega)) fun w G cx => ⟨r, l[i].l.length, rc, ?_, fun w G cx => (Short41_sl (l := l[i].l) (n := 12) (by omega)).toB cx ?_⟩⟩
    · have := pinp_rowAt (hP _ _ cx.phi) hlt he 2 (by simp)
      rw [Int.toNat_natCast]
      exact this
    clear cx
    refine Br.intro (fun h => fun w G cx => ⟨?_, cx.left⟩) (fun h => ⟨by unfold I64; unfold maxLen at hlen; omega, R1, Φ1, l.length - (i + 1), inferInstance, fun w G cx => cx, ⟨i + 1, rfl, hlt, rfl, rfl, rfl, ?_⟩, by omega⟩)
    · have h : shortL l[i].l 12 = false := by simpa using h
      unfold fewL
      rw [List.all_eq_false.2 ⟨l[i], List.getElem_mem _, by rw [h]; simp⟩]; rfl
    · have h : shortL l[i].l 12 = true := by simpa using h
      rw [List.take_succ_eq_append_getElem hlt, List.all_append, hs]
      simp [h]
  · have hge : i = l.length := by have := of_decide_eq_false hge; omega
    subst hge
    rw [List.take_length] at hs
    unfold fewL
    rw [hs, Bool.true_and]

/-! ### the reference's net -/
/-! ### a ledger's own -/
theorem Count_q [Stable Φ] {t : Int} {r : List ValD} [hT : Has Φ TabI] [hR : Has Φ (fun M w => Sl M w p r)] (hq : LedQ q st) (hlen : r.length ≤ 1000000) (htx : ∀ v ∈ r, v.text.size ≤ 10000) :
    GivesQ (LedO q st) Φ Tryd.prog F.ledger_Ledger_Count #[led q, .int .i64 t, .slice p r.length cap] (.int .i64 (cntL st.lines (t, rowB r))) := by
  refine gives_q (Bledger_Ledger_Count_run q.lb 0 t p r.length cap) fun W R => ⟨LedO q st ++ R, Φ, inferInstance, fun w G cx => cx, some q.mb, fun w G cx => ⟨some q.mb, led_cell (i := 2) cx rfl, rfl⟩, fun w G cx => ?_⟩
  refine (RowBytes_in p cap r hT.go hR.go hlen htx).toS cx ⟨fun w G cx => cx, getM q.es (t, rowB r), fun w G cx => ⟨_, fun w2 hw2 => run_lookupM keyTy (by rw [hw2]; exact led_map cx) (t, rowB r), rfl⟩, fun w G cx => ⟨?_, cx.left⟩⟩
  rw [hq.cnt]

theorem Causes_to [Stable Φ] (cx : Ctx W w ((LedO q st ++ R) ++ G) Φ) {K : Int → Int → Int → List Own → PW → Prop} (hk : K (caus st.lines 0) (caus st.lines 1) (caus st.lines 2) (LedO q st ++ R) Φ) :
    Calls Tryd.prog F.ledger_Ledger_Causes #[led q] w fun e w' => ∃ a b c, e = .returned (.tuple #[.int .i64 a, .int .i64 b, .int .i64 c]) ∧ ∃ R' Φ', Stable Φ' ∧ Ctx W w' (R' ++ G) Φ' ∧ K a b c R' Φ' := by
  refine (Bledger_Ledger_Causes_run q.lb 0 (R := (LedO q st ++ R) ++ G) (J := fun v w' => v = .tuple #[.int .i64 (caus st.lines 0), .int .i64 (caus st.lines 1), .int .i64 (caus st.lines 2)] ∧ Ctx W w' ((LedO q st ++ R) ++ G) Φ) cx ?_).mono fun e w' ⟨v, he, hv, c'⟩ => ⟨_, _, _, by rw [he, hv], _, Φ, inferInstance, c', hk⟩
  exact fun w G2 cx => ⟨by omega, _, cx.get 0 (i := 3) rfl rfl, by omega, _, cx.get 0 (i := 4) rfl rfl, by omega, _, cx.get 0 (i := 5) rfl rfl, fun w G3 cx => ⟨rfl, cx.left⟩⟩

theorem new_q {b m : Nat} : LedQ ⟨b, none, 0, [], none, 0, m, [], 0⟩ ⟨[], []⟩ where
  map := ⟨List.Pairwise.nil, List.Pairwise.nil, by simp⟩
  cnt := fun k => rfl
  lpt := fun h => by simp at h
  bpt := fun h => by simp at h
  lcap := ⟨Nat.le_refl _, Nat.zero_le _⟩
  cells := fun i h => by simp at h
  len := rfl
theorem new_s : LedS ⟨[], []⟩ := ⟨by simp, by simp, by simp, by simp, by simp⟩
theorem New_to [Stable Φ] (c : Ctx W w (R ++ G) Φ) {K : Option Addr → List Own → PW → Prop}
    (hk : ∀ q : LP, LedQ q ⟨[], []⟩ → Stable (fun M w => Φ M w ∧ LF q ⟨[], []⟩ M w) → K (some ⟨q.lb, 0, none⟩) (LedO q ⟨[], []⟩ ++ R) (fun M w => Φ M w ∧ LF q ⟨[], []⟩ M w)) :
    Calls Tryd.prog F.ledger_New #[] w fun e w' => ∃ p, e = .returned (.pointer p) ∧ ∃ R' Φ', Stable Φ' ∧ Ctx W w' (R' ++ G) Φ' ∧ K p R' Φ' := by
  refine (Bledger_New_run (R := R ++ G) (J := fun v w' => ∃ p, v = .pointer p ∧ ∃ R' Φ', Stable Φ' ∧ Ctx W w' (R' ++ G) Φ' ∧ K p R' Φ') c ?_).mono fun e w' ⟨v, he, p, hv, rest⟩ => ⟨p, by rw [he, hv], rest⟩
  intro k0 k1 w2 G2 cx
  have cx := Ctx.left (S := .blk k1 _ 117 :: .obj k0 (.map #[] 0) :: (R ++ G)) cx
  have c2 := (cx.nobuf 120 3)
  have c3 := c2.nobuf 81 7
  have c4 : Ctx W w2 (.blk k1 [.slice none 0 0, .slice none 0 0, .map (some k0), .int .i64 0, .int .i64 0, .int .i64 0] 117 :: .buf none 0 0 [] 81 7 :: .buf none 0 0 [] 120 3 :: .obj k0 (.map #[] 0) :: (R ++ G)) Φ := c3.perm (List.perm_middle (l₁ := [_, _]) (a := _))
  exact ⟨_, rfl, LedO ⟨k1, none, 0, [], none, 0, k0, [], 0⟩ ⟨[], []⟩ ++ R, _, instStableAnd Φ (fun M w => Elems M w [] ([] : List LineD)), c4.weak fun M w h => ⟨h, Elems.nil⟩, hk ⟨k1, none, 0, [], none, 0, k0, [], 0⟩ new_q (instStableAnd Φ (fun M w => Elems M w [] ([] : List LineD)))⟩
end
end Go.Proofs.YtbkpfhhhbhaecaaDoor
end

/-
  Append of lines that facts tell of; the examples of the law.
-/
section
set_option linter.unusedVariables false
set_option linter.unusedSimpArgs false
namespace Go.Proofs.YtbkpfhhhbhaecaaDoor
open Go.Vc


theorem app_s {st : LedD} {no mark : Int} {L : List LineD} (hs : LedS st) (hr : ∀ x ∈ L, x.row.length ≤ 13) (ht : ∀ x ∈ L, ∀ v ∈ x.row, v.text.size ≤ 300) (h1 : (st.lines ++ L).length ≤ 100000) (h2 : st.bats.length + 1 ≤ 100000) : LedS (appP st no mark L) where
  lines := h1
  bats := by show (st.bats ++ [_]).length ≤ _; rw [List.length_append]; exact h2
  row := fun x hx => (List.mem_append.1 hx).elim (hs.row x) (hr x)
  text := fun x hx => (List.mem_append.1 hx).elim (hs.text x) (ht x)
  stop := fun b hb => by
    show b.stop ≤ (st.lines ++ L).length
    rcases List.mem_append.1 hb with h | h
    · have := hs.stop b h
      rw [List.length_append]; omega
    · rw [List.mem_singleton.1 h]; exact Nat.le_refl _
theorem app_bats {st : LedD} {no mark : Int} {L : List LineD} (hs : LedS st) (hb : BatsOk st) (h1 : I64 no) (h2 : I64 mark) : BatsOk (appP st no mark L) := by
  refine ⟨fun i hi => ?_, fun b hm => ?_⟩
  · have hi : i < (st.bats ++ [(⟨no, mark, (st.lines ++ L).length⟩ : BatD)]).length := hi
    show begP (st.bats ++ [(⟨no, mark, (st.lines ++ L).length⟩ : BatD)]) i ≤ (st.bats ++ [(⟨no, mark, (st.lines ++ L).length⟩ : BatD)])[i].stop
    rw [List.length_append, List.length_singleton] at hi
    have e : begP (st.bats ++ [(⟨no, mark, (st.lines ++ L).length⟩ : BatD)]) i = begP st.bats i := by
      unfold begP
      by_cases h0 : i = 0
      · rw [if_pos h0, if_pos h0]
      · rw [if_neg h0, if_neg h0, List.getElem?_append_left (by omega)]
    rw [e]
    by_cases hlt : i < st.bats.length
    · rw [List.getElem_append_left hlt]
      exact hb.1 i hlt
    · have hie : i = st.bats.length := by omega
      subst hie
      rw [List.getElem_append_right (Nat.le_refl _)]
      simp only [Nat.sub_self, List.getElem_cons_zero]
      unfold begP
      split
      · exact Nat.zero_le _
      · rw [List.getElem?_eq_getElem (by omega)]
        have := hs.stop _ (List.getElem_mem (l := st.bats) (n := st.bats.length - 1) (by omega))
        rw [List.length_append]
        show st.bats[st.bats.length - 1].stop ≤ _
        omega
  · rcases List.mem_append.1 hm with h | h
    · exact hb.2 b h
    · rw [List.mem_singleton.1 h]; exact ⟨h1, h2⟩

section
variable {Φ : PW} {q : LP} {st : LedD} {W w : World} {R S G : List Own} {p r : Option Addr} {cap cap2 : Nat}

theorem EqualH [Stable Φ] {a b : List DeltaD} [hΦ : Has Φ (fun M w => Sl M w p a)] [hΨ : Has Φ (fun M w => Sl M w r b)] (hlen : a.length ≤ 1000000) :
    GivesIn Φ Tryd.prog F.errataref28_Equal #[.slice p a.length cap, .slice r b.length cap2] (.bool (decide (a = b))) := Equal_in p cap a r cap2 b hΦ.go hΨ.go (by omega)

theorem Append_to [Stable Φ] {no mark : Int} {L : List LineD} [hT : Has Φ TabI] [hF : Has Φ (LF q st)] [hL : Has Φ (fun M w => Sl M w p L)] (hq : LedQ q st) (hs : LedS st) (hk : CntOk st) (hlen : L.length ≤ 100000) (hrow : ∀ x ∈ L, x.row.length ≤ 1000000) (htx : ∀ x ∈ L, ∀ v ∈ x.row, v.text.size ≤ 10000)
    (c : Ctx W w ((LedO q st ++ R) ++ G) Φ) {K : Int → List Own → PW → Prop}
    (h0 : checkP st no mark L ≠ 0 → K (checkP st no mark L) (LedO q st ++ R) Φ)
    (h1 : ∀ q', checkP st no mark L = 0 → RowsFit L → q'.lb = q.lb → LedQ q' (appP st no mark L) → Stable (fun M w => Φ M w ∧ LF q' (appP st no mark L) M w) → K 0 (LedO q' (appP st no mark L) ++ R) (fun M w => Φ M w ∧ LF q' (appP st no mark L) M w)) :
    Calls Tryd.prog F.ledger_Ledger_Append #[led q, .int .i64 no, .int .i64 mark, .slice p L.length cap] w fun e w' => ∃ n, e = .returned (.int .i64 n) ∧ ∃ R' Φ', Stable Φ' ∧ Ctx W w' (R' ++ G) Φ' ∧ K n R' Φ' := by
  have hth := (hL.go _ _ c.phi).there
  obtain ⟨cs, c1⟩ := srcOf c (hL.go _ _ c.phi)
  refine (Append_use (Φ := fun M w => Φ M w ∧ SrcF p L cs M w) hq hs hk (src_fact hth fun M w h => h.2) hlen hrow htx c1 (K := fun n R' Φ' => ∃ Φ2, Stable Φ2 ∧ (∀ M w, Φ' M w → Φ2 M w) ∧ K n R' Φ2)
    (fun hz => ⟨Φ, inferInstance, fun M w h => h.1, h0 hz⟩) (fun q' hz hf hlb hq' _ => ⟨_, inferInstance, fun M w h => ⟨h.1.1, h.2⟩, h1 q' hz hf hlb hq' inferInstance⟩)).mono fun e w' ⟨n, he, R', Φ', hst, cx, Φ2, hst2, hw, hK⟩ => ⟨n, he, R', Φ2, hst2, cx.weak hw, hK⟩
end

/-! ### small -/
abbrev v7 : List ValD := [⟨0, 7, ByteArray.mk #[]⟩]
abbrev v8 : List ValD := [⟨0, 8, ByteArray.mk #[]⟩]
abbrev sL1 : List LineD := [⟨1, 1, 5, v7, 2, 0, 0⟩]
abbrev sL2 : List LineD := [⟨2, 3, 5, v7, -1, 1, 0⟩, ⟨3, 3, 12, v8, 1, 0, 0⟩]
abbrev sL3 : List LineD := [⟨4, 4, 5, v7, -2, 1, 0⟩]
abbrev sT1 : LedD := appP ⟨[], []⟩ 1 10 sL1
abbrev sT2 : LedD := appP sT1 3 20 sL2
theorem s_c1 : checkP ⟨[], []⟩ 1 10 sL1 = 0 := by decide +kernel
theorem s_c2 : checkP sT1 3 20 sL2 = 0 := by decide +kernel
theorem s_c3 : checkP sT2 4 20 sL3 = 7 := by decide +kernel
theorem s_cnt : cntL sT2.lines (5, rowB v7) = 1 := by decide +kernel
theorem s_net : netP sT2.lines = [⟨5, v7, 1⟩, ⟨12, v8, 1⟩] := by decide +kernel
theorem s_at : netP (sT2.lines.take (endP sT2.bats 1 0)) = [⟨5, v7, 2⟩] := by decide +kernel
theorem v7_rep {M : List Nat} {w : World} : Gv.rep M w [.int .i64 0, .int .i64 7, .string (ByteArray.mk #[])] (⟨0, 7, ByteArray.mk #[]⟩ : ValD) := val_rep (v := ⟨0, 7, ByteArray.mk #[]⟩) (by unfold I64; decide)
theorem v8_rep {M : List Nat} {w : World} : Gv.rep M w [.int .i64 0, .int .i64 8, .string (ByteArray.mk #[])] (⟨0, 8, ByteArray.mk #[]⟩ : ValD) := val_rep (v := ⟨0, 8, ByteArray.mk #[]⟩) (by unfold I64; decide)
end Go.Proofs.YtbkpfhhhbhaecaaDoor
end

