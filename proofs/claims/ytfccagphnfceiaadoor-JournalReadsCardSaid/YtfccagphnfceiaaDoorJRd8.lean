/-
  For every input erratalaw06.JournalReads returns true, does not panic, comes to an end, and leaves what came in as it was; the variables that its row lists are as the program's text lays them.
  Conditions: none beyond the given statement's own (JournalReadsCardSaid).
-/
import Derived.Test.YtfccagphnfceiaaDoorJRd7
import Derived.Test.YtfccagphnfceiaaDoorJRd5
import Derived.Test.YtfccagphnfceiaaDoorJRd6
import Derived.Test.YtfccagphnfceiaaDoorCards
import Derived.MakeChecks
import Derived.Stop.LaidErr
import Derived.Lib.LaidTab
import Derived.Test.YtfccagphnfceiaaDoorTie
import Derived.SevenTiedAt
import Derived.LaidMore
import Derived.ChangeMaps5
import Derived.Test.YtfccagphnfceiaaDoorRows

/-
  The form of a list; the numbers in the cell; reading a list: walked.
-/
section
set_option linter.unusedVariables false
set_option linter.unusedSimpArgs false
namespace Go.Proofs.YtfccagphnfceiaaDoor
open Go.Vc

section
variable {W w : World} {S G : List Own} {Φ : PW} {p : Option Addr} {cap : Nat} {l : List ByteArray} {o : Own}
theorem form_in [Stable Φ] (hT : ∀ M w, Φ M w → TabI M w) (hsl : ∀ M w, Φ M w → Sl M w p l) (hlen : (formL l).length ≤ 1000000000) : GivesIn Φ Tryd.prog F.journal_form #[.slice p l.length cap] (.string (bs (formL l))) := by
  refine .there (fun M w h => (hsl M w h).there) fun hth => ?_
  have hn := formL_len (l := l) fun x hx => Nat.le_trans (formL_size hx) (by omega)
  refine gives_in (Bjournal_form_run p l.length cap) fun W R => fun b => ?_
  refine exI_mk (fun iI R' Φ' k => ∃ (i : Nat) (Q : List Own), iI = i ∧ i + k = l.length ∧ BdT b (formL (l.take i)) Q ∧ R' = Q ++ R ∧ Φ' = Φ) ⟨?_, ?_⟩
  · refine ⟨_, Φ, l.length, inferInstance, fun w G cx => ?_, 0, [.blk b [.pointer none, .slice none 0 0] 98, .buf none 0 0 (Lib.byteCells []) 5 1], rfl, by omega, Bd.nil, rfl, rfl⟩
    exact Bd.fresh cx
  rintro iI R2 Φ k _ ⟨i, Q, rfl, hik, hQ, rfl, rfl⟩
  refine Br.intro (fun hlt => ?_) (fun hge => fun w G cx => ?_)
  · have hlt : i < l.length := by have := of_decide_eq_true hlt; omega
    obtain ⟨k, rfl⟩ : ∃ m, k = m + 1 := ⟨k - 1, by omega⟩
    obtain ⟨g, o, rfl⟩ := hth (by omega)
    have hsz := formL_size (List.getElem_mem hlt)
    have hstep : formL (l.take (i + 1)) = formL (l.take i) ++ (textB l[i]).data.toList := by
      rw [List.take_succ_eq_append_getElem hlt, formL_app]
      simp [formL]
    have hle : (formL (l.take (i + 1))).length ≤ (formL l).length := by
      have e : formL l = formL (l.take (i + 1)) ++ formL (l.drop (i + 1)) := by rw [← formL_app, List.take_append_drop]
      rw [e, List.length_append]; omega
    refine ⟨⟨by omega, by omega⟩, ptrK_intro g o rfl fun w G cx => ⟨l[i], by rw [Int.toNat_natCast]; exact sl_str (hsl _ _ cx.phi) hlt, fun w G cx => (Text_in (Φ := Φ) (.inl ⟨hT, by unfold I64; omega⟩) (by omega)).use cx fun w cx => ⟨_, rfl, Q ++ R, Φ, inferInstance, cx, fun w G cx => ?_⟩⟩⟩
    refine WriteString_use (textB l[i]) hQ (cx.re (List.append_assoc _ _ _)) (by rw [hstep, List.length_append, list_size] at hle; omega) fun Q' w hQ' cx => ⟨_, _, rfl, Q' ++ R, Φ, inferInstance, by rw [List.append_assoc]; exact cx, by unfold I64; omega, _, Φ, k, inferInstance, fun w G cx => cx, ⟨i + 1, Q', by omega, by omega, ?_, rfl, rfl⟩, Nat.lt_succ_self _⟩
    rw [hstep]; exact hQ'
  · have hge : i = l.length := by have := of_decide_eq_false hge; omega
    subst hge
    rw [List.take_length] at hQ
    exact String_use hQ (cx.re (List.append_assoc _ _ _)) fun w cx => ⟨_, rfl, R, Φ, inferInstance, cx, fun w G cx => ⟨rfl, cx.left⟩⟩

theorem numbers_use [Stable Φ] (hN : ∀ M w, Φ M w → NumI M w) {cb : Nat} {q : DkP} {c : CelS} (hl : c.value.length ≤ 1000000000) (cx : Ctx W w (clO cb q c :: S) Φ) {K : Ending → World → Prop}
    (hk : ∀ w', Ctx W w' (clO cb q c :: S) Φ → K (.returned (.tuple #[.int .i64 (numsJ c).1, .int .i64 (numsJ c).2.1, .bool (numsJ c).2.2])) w') : Calls Tryd.prog F.journal_numbers #[.pointer (some ⟨cb, 0, none⟩)] w K := by
  refine (Bjournal_numbers_run cb 0 (J := fun u w' => K (.returned u) w') cx fun w G cx => CGet_use (S := S ++ G) cx fun w cx => ⟨_, _, rfl, clO cb q c :: S, Φ, inferInstance, cx, Br.intro (fun h => fun w G cx => ?_) (fun h => fun w G cx => ?_)⟩).mono fun e w' ⟨v, he, hj⟩ => by rw [he]; exact hj
  · have h : c.slot = 0 := by
      have : ¬ 0 < c.slot := by simpa using h
      omega
    have e : numsJ c = (0, 0, true) := by unfold numsJ; rw [if_pos h]
    rw [e] at hk
    exact hk w cx.left
  · have h : ¬ c.slot = 0 := by
      have : 0 < c.slot := by simpa using h
      omega
    have e : numsJ c = ((rdNat (c.value, false)).1, (rdNat (rdNat (c.value, false)).2).1, rdDone (rdNat (rdNat (c.value, false)).2).2) := by unfold numsJ; rw [if_neg h]
    rw [e] at hk
    have hlen : (rdNat (c.value, false)).2.1.length ≤ c.value.length := stepN_len 59 0 (c.value, false)
    refine Open_use c.value cx fun b w cx => ⟨_, rfl, rd b (c.value, false) :: clO cb q c :: S, Φ, inferInstance, cx, fun w G cx => RNum_to (S := clO cb q c :: S) hN (by show c.value.length ≤ _; omega) cx (fun w G cx => RNum_to (S := clO cb q c :: S) hN (by omega) cx (fun w G cx => Done_to (S := clO cb q c :: S) cx (fun w G cx => hk w (Ctx.left (Ctx.drop1 cx)))))⟩

theorem read_end [Stable Φ] (hT : ∀ M w, Φ M w → TabI M w) {s : Bs} (hs : s.length ≤ 16777216) {n : Int} {b : Nat} {st : RdS} (hform : st.2 = false → formL l ++ st.1 = s) (cx : Ctx W w ((.buf p l.length cap (strC l) 9 1 :: rd b st :: S) ++ G) Φ) {K : Ending → World → Prop}
    (h0 : ∀ w', endJ s n (l, st) = none → Ctx W w' S Φ → K (.returned (.tuple #[.slice p l.length cap, .bool false])) w')
    (h1 : ∀ w', endJ s n (l, st) = some l → Ctx W w' (.buf p l.length cap (strC l) 9 1 :: S) Φ → K (.returned (.tuple #[.slice p l.length cap, .bool true])) w') :
    Calls Tryd.prog F.wire_Reader_Done #[.pointer (some ⟨b, 0, none⟩)] w fun e w' => ∃ c, e = .returned (.bool c) ∧ ∃ R' Φ', Stable Φ' ∧ Ctx W w' (R' ++ G) Φ' ∧
      Br c (Br (decide ((l.length : Int) = n)) (∀ w G, Ctx W w (R' ++ G) Φ' → Calls Tryd.prog F.journal_form #[.slice p l.length cap] w fun e w' => ∃ s1, e = .returned (.string s1) ∧ ∃ R2 Φ2, Stable Φ2 ∧ Ctx W w' (R2 ++ G) Φ2 ∧ ∀ w G, Ctx W w (R2 ++ G) Φ2 → K (.returned (.tuple #[.slice p l.length cap, .bool (decide (s1 = bs s))])) w)
        (∀ w G, Ctx W w (R' ++ G) Φ' → K (.returned (.tuple #[.slice p l.length cap, .bool false])) w)) (∀ w G, Ctx W w (R' ++ G) Φ' → K (.returned (.tuple #[.slice p l.length cap, .bool false])) w) := by
  refine Done_to (S := .buf p l.length cap (strC l) 9 1 :: S) cx.swap (Br.intro (fun hd => Br.intro (fun hn => fun w G cx => ?_) (fun hn => fun w G cx => ?_)) (fun hd => fun w G cx => ?_))
  · have hst := done_is hd
    subst hst
    have hf := hform rfl
    rw [List.append_nil] at hf
    have he : endJ s n (l, ([], false)) = some l := by unfold endJ; exact if_pos ⟨hd, of_decide_eq_true hn, hf⟩
    have hlen : (formL l).length ≤ 16777216 := by rw [hf]; exact hs
    have hsz : ∀ x ∈ l, x.size ≤ maxLen := fun x hx => Nat.le_trans (formL_size hx) (by unfold maxLen; omega)
    have c2 : Ctx W w ([Own.buf p l.length cap (strC l) 9 1] ++ (rd b ([], false) :: (S ++ G))) Φ := Ctx.swap (S := S ++ G) cx
    have c3 := c2.aside
    refine (form_in (Φ := Go.Vc.Aside W [.buf p l.length cap (strC l) 9 1] Φ) (fun M w h => hT M w h.less) (fun M w h => (SB.buf p cap l).sl hsz h) (by omega)).use c3 fun w c4 => ⟨_, rfl, .buf p l.length cap (strC l) 9 1 :: rd b ([], false) :: S, Φ, inferInstance, c4.unaside, fun w G cx => ?_⟩
    rw [hf, decide_eq_true (rfl : bs s = bs s)]
    exact h1 w he (Ctx.drop1 (Ctx.swap (Ctx.left (S := .buf p l.length cap (strC l) 9 1 :: rd b ([], false) :: S) cx)))
  · have he : endJ s n (l, st) = none := by unfold endJ; exact if_neg fun h => of_decide_eq_false hn h.2.1
    exact h0 w he (Ctx.drop1 (Ctx.drop1 (Ctx.left cx)))
  · have he : endJ s n (l, st) = none := by unfold endJ; exact if_neg fun h => by rw [h.1] at hd; cases hd
    exact h0 w he (Ctx.drop1 (Ctx.drop1 (Ctx.left cx)))

theorem Read_use [Stable Φ] (hN : ∀ M w, Φ M w → NumI M w) {s : Bs} (hs : s.length ≤ 16777216) {n : Int} (cx : Ctx W w S Φ) {K : Ending → World → Prop}
    (h0 : ∀ p k c w', readJ s n = none → Ctx W w' S Φ → K (.returned (.tuple #[.slice p k c, .bool false])) w')
    (h1 : ∀ p cap l o w', readJ s n = some l → SB p cap l o → Ctx W w' (o :: S) Φ → K (.returned (.tuple #[.slice p l.length cap, .bool true])) w') :
    Calls Tryd.prog F.journal_read #[.string (bs s), .int .i64 n] w K := by
  have hT : ∀ M w, Φ M w → TabI M w := fun M w h => (hN M w h).1
  refine (Bjournal_read_run (bs s) n (J := fun u w' => K (.returned u) w') cx fun w G cx => Open_use s cx fun b w cx => ⟨_, rfl, rd b (s, false) :: S, Φ, inferInstance, cx, ?_⟩).mono fun e w' ⟨v, he, hj⟩ => by rw [he]; exact hj
  refine exI_mk (fun p k c R' Φ' m => ∃ (st : RdS) (acc : List ByteArray), k = acc.length ∧ R' = .buf p acc.length c (strC acc) 9 1 :: rd b st :: S ∧ Φ' = Φ ∧ st.1.length < m ∧ acc.length + st.1.length ≤ s.length ∧ (st.2 = false → formL acc ++ st.1 = s) ∧ readJ s n = endJ s n (loopJ m st n acc))
    ⟨⟨.buf none 0 0 (strC []) 9 1 :: rd b (s, false) :: S, Φ, s.length + 1, inferInstance, fun w G cx => cx.nobuf 9 1, (s, false), [], rfl, rfl, rfl, Nat.lt_succ_self _, by simp, fun _ => rfl, rfl⟩, ?_⟩
  rintro p k c R1 Φ m st ⟨rs, acc, rfl, rfl, rfl, hm, hal, hform, hread⟩
  obtain ⟨m, rfl⟩ : ∃ x, m = x + 1 := ⟨m - 1, by omega⟩
  have hfin : ∀ st', (st'.2 = false → formL acc ++ st'.1 = s) → loopJ (m + 1) rs n acc = (acc, st') → ∀ {w : World} {G : List Own}, Ctx W w ((.buf p acc.length c (strC acc) 9 1 :: rd b st' :: S) ++ G) Φ → _ := fun st' hf hlp {w G} cx =>
    read_end (S := S) (G := G) (K := K) (n := n) hT hs hf cx (fun w he cx => h0 p acc.length c w (by rw [hread, hlp]; exact he) cx) (fun w he cx => h1 p c acc _ w (by rw [hread, hlp]; exact he) (SB.buf p c acc) cx)
  refine Br.intro (fun hlt => fun w G cx => ?_) (fun hge => fun w G cx => ?_)
  · have hlt := of_decide_eq_true hlt
    have e : loopJ (m + 1) rs n acc = if rs.1.length ≤ (stepT rs).2.1.length ∨ rs.1 = [] then (acc, (stepT rs).2) else loopJ m (stepT rs).2 n (acc ++ [(stepT rs).1]) := by
      conv => lhs; unfold loopJ
      rw [if_pos hlt]
    have hf2 : (stepT rs).2.2 = false → formL acc ++ ((textB (stepT rs).1).data.toList ++ (stepT rs).2.1) = s := fun hb => by
      obtain ⟨h1, h2⟩ := text_is hb
      rw [← h2]; exact hform h1
    refine Left_to (S := .buf p acc.length c (strC acc) 9 1 :: S) cx.swap (fun w G cx => Text_to (S := .buf p acc.length c (strC acc) 9 1 :: S) hN (by omega) cx (fun w G cx => Left_to (S := .buf p acc.length c (strC acc) 9 1 :: S) cx (Br.intro (fun h2 => fun w G cx => ?_) (fun h2 => Br.intro (fun h3 => fun w G cx => ?_) (fun h3 => fun k w G cx => ?_)))))
    · rw [if_pos (.inl (by have := of_decide_eq_true h2; omega))] at e
      exact hfin (stepT rs).2 (fun hb => by obtain ⟨h1, h2⟩ := text_is hb; exact absurd h1 (by
        intro h3
        have := hf2 hb
        have e2 := congrArg List.length h2
        rw [List.length_append, textB_list, List.length_append, List.length_cons, List.length_append, List.length_singleton] at e2
        have := of_decide_eq_true ‹_›
        omega)) e cx.swap
    · rw [if_pos (.inr (List.eq_nil_of_length_eq_zero (by have := of_decide_eq_true h3; omega)))] at e
      have h0 : rs.1 = [] := List.eq_nil_of_length_eq_zero (by have := of_decide_eq_true h3; omega)
      exact hfin (stepT rs).2 (fun hb => by rw [stepT_nil h0] at hb; cases hb) e cx.swap
    · have h2 := of_decide_eq_false h2
      have h3 := of_decide_eq_false h3
      have hc : ¬ (rs.1.length ≤ (stepT rs).2.1.length ∨ rs.1 = []) := fun h => h.elim (fun h => h2 (by omega)) (fun h => h3 (by rw [h]; rfl))
      rw [if_neg hc] at e
      have cx : Ctx W w (.blk k [.string (stepT rs).1] 9 :: .buf p acc.length c (strC acc) 9 1 :: rd b (stepT rs).2 :: (S ++ G)) Φ := cx.perm (List.Perm.cons _ (List.Perm.swap _ _ _))
      obtain ⟨p', cap', w', hr, _, c2⟩ := cx.app1 (ts := 36) (ty := 36) (kb := #[false, false]) (bytes := 16) (by kernel_rfl) (by decide) rfl rfl (by omega) (by decide)
      have es : strC acc ++ [.string (stepT rs).1] = strC (acc ++ [(stepT rs).1]) := by
        show _ = List.map Value.string (acc ++ [(stepT rs).1])
        rw [List.map_append]; rfl
      have el : acc.length + 1 = (acc ++ [(stepT rs).1]).length := by rw [List.length_append]; rfl
      rw [es, el] at c2
      rw [el] at hr
      refine ⟨p', _, cap', w', hr, .buf p' (acc ++ [(stepT rs).1]).length cap' (strC (acc ++ [(stepT rs).1])) 9 1 :: rd b (stepT rs).2 :: S, Φ, inferInstance, c2, _, Φ, m, inferInstance, fun w G cx => cx, ⟨_, acc ++ [(stepT rs).1], rfl, rfl, rfl, by omega, by rw [← el]; omega, fun hb => ?_, by rw [hread, e]⟩, Nat.lt_succ_self _⟩
      have := hf2 hb
      rw [formL_app, List.append_assoc, show formL [(stepT rs).1] = (textB (stepT rs).1).data.toList by simp [formL]]
      exact this
  · have e : loopJ (m + 1) rs n acc = (acc, rs) := by unfold loopJ; rw [if_neg (of_decide_eq_false hge)]
    exact hfin rs hform e cx
end
end Go.Proofs.YtfccagphnfceiaaDoor
end

/-
  A journal in memory: note, Append: walked.
-/
section
set_option linter.unusedVariables false
set_option linter.unusedSimpArgs false
namespace Go.Proofs.YtfccagphnfceiaaDoor
open Go.Vc

structure JoP where
  jb : Nat
  cb : Nat
  p : Option Addr
  cap : Nat
  o : Own
abbrev joB (x : JoP) (q : DkP) (j : JouS) : List Value := [.pointer (some ⟨q.db, 0, none⟩), .int .i64 j.base, .pointer (some ⟨x.cb, 0, none⟩), .slice x.p j.list.length x.cap, .int .i64 (j.bytes : Int), .bool j.broken]
/-- what a journal owns -/
abbrev JoO (x : JoP) (q : DkP) (j : JouS) : List Own := [x.o, .blk x.jb (joB x q j) 71, clO x.cb q j.cell]
def JoP.mv (x : JoP) (p : Option Addr) (cap : Nat) (o : Own) : JoP := ⟨x.jb, x.cb, p, cap, o⟩

section
variable {W w : World} {S G : List Own} {Φ : PW}
theorem jd_in [Stable Φ] {A X S G : List Own} (cx : Ctx W w ((A ++ (X ++ S)) ++ G) Φ) : Ctx W w (X ++ (A ++ (S ++ G))) Φ := by
  rw [List.append_assoc, List.append_assoc] at cx
  exact cx.perm (perm3 _ _ _ _)
theorem jd_out [Stable Φ] {A X S G : List Own} (cx : Ctx W w (X ++ (A ++ (S ++ G))) Φ) : Ctx W w ((A ++ (X ++ S)) ++ G) Φ := by
  rw [List.append_assoc, List.append_assoc]
  exact cx.perm (perm3 _ _ _ _)
theorem jc_in [Stable Φ] {a b c : Own} {X S G : List Own} (cx : Ctx W w (([a, b, c] ++ (X ++ S)) ++ G) Φ) : Ctx W w (c :: (X ++ (a :: b :: (S ++ G)))) Φ :=
  jd_in (A := [a, b]) (X := c :: X) cx
theorem jc_out [Stable Φ] {a b c : Own} {X S G : List Own} (cx : Ctx W w (c :: (X ++ (a :: b :: (S ++ G)))) Φ) : Ctx W w (([a, b, c] ++ (X ++ S)) ++ G) Φ :=
  jd_out (A := [a, b]) (X := c :: X) cx

theorem Note_use [Stable Φ] {q : DkP} {d : DsS} (hq : DkQ q d) (hkp : DkK Φ q d) (hoff : ∀ M w, Φ M w → OffI M w) (hT : ∀ M w, Φ M w → TabI M w) {x : JoP} {j : JouS} {b n : Nat} (hb : b ≤ 1099511627776) (hn : n ≤ 1099511627776) (cx : Ctx W w (JoO x q j ++ (dkL q d ++ S)) Φ) {K : Ending → World → Prop}
    (hk : ∀ u w', DkQ (q.mv u) (noteS d j b n).1 → Ctx W w' (JoO x q (noteS d j b n).2.1 ++ (dkL (q.mv u) (noteS d j b n).1 ++ S)) Φ → K (.returned (.int .i64 (noteS d j b n).2.2)) w') :
    Calls Tryd.prog F.journal_Journal_note #[.pointer (some ⟨x.jb, 0, none⟩), .int .i64 (b : Int), .int .i64 (n : Int)] w K := by
  have h1 := intB_size (n := (b : Int)) (by unfold I64; omega)
  have h2 := intB_size (n := (n : Int)) (by unfold I64; omega)
  refine (Bjournal_Journal_note_run x.jb 0 (b : Int) (n : Int) (J := fun u w' => K (.returned u) w') cx ⟨_, Φ, inferInstance, fun w G cx => cx, some ⟨x.cb, 0, none⟩, fun w G cx => ⟨_, cx.get 1 rfl rfl, rfl⟩, fun w G cx => (Int_in (Φ := Φ) (.inl ⟨hT, by unfold I64; omega⟩)).use cx fun w cx => ⟨_, rfl, _, Φ, inferInstance, cx, fun w G cx => cx, fun w G cx => (Int_in (Φ := Φ) (.inl ⟨hT, by unfold I64; omega⟩)).use cx fun w cx => ⟨_, rfl, _, Φ, inferInstance, cx, fun w G cx => cx, by show (intB (b : Int)).size + (intB (n : Int)).size ≤ _; omega, fun w G cx => ?_⟩⟩⟩).mono fun e w' ⟨v, he, hj⟩ => by rw [he]; exact hj
  have e : intB (b : Int) ++ intB (n : Int) = bs (encB b n) := by
    apply ByteArray.ext
    apply Array.toList_inj.1
    simp [encB, bs]
  rw [e]
  unfold noteS at hk
  refine CSet_use (S := x.o :: .blk x.jb (joB x q j) 71 :: (S ++ G)) hq hkp hoff (jc_in cx) fun u w hq1 cx => ?_
  generalize setC d j.cell (encB b n) = r at hk hq1 cx
  obtain ⟨d1, c1, e1⟩ := r
  simp only at hk hq1 cx
  refine ⟨e1, rfl, [x.o, .blk x.jb (joB x q j) 71, clO x.cb q c1] ++ (dkL (q.mv u) d1 ++ S), Φ, inferInstance, jc_out cx, fun w G cx => ⟨cx.can 1 rfl (by show 5 + 1 ≤ 6; omega), fun w' hw' => ?_⟩⟩
  exact ⟨_, Φ, inferInstance, cx.put 1 hw' rfl, fun w G cx => hk u w hq1 (Ctx.left cx)⟩
end
end Go.Proofs.YtfccagphnfceiaaDoor
end

/-
  A journal in memory: Append: walked.
-/
section
set_option linter.unusedVariables false
set_option linter.unusedSimpArgs false
namespace Go.Proofs.YtfccagphnfceiaaDoor
open Go.Vc

theorem log_keep (d : DsS) (j : JouS) (l : List ByteArray) : (logS d j l).1.keep = d.keep := by
  unfold logS; split
  · rw [sync_keep, write_keep]
  · exact write_keep _ _ _ _
theorem setC2_keep (d : DsS) (c : CelS) (s : Bs) (n : Nat) : (setC2 d c s n).1.keep = d.keep := by
  unfold setC2
  repeat' split
  all_goals simp only [sync_keep, write_keep]
theorem setC_keep (d : DsS) (c : CelS) (s : Bs) : (setC d c s).1.keep = d.keep := by
  unfold setC
  repeat' split
  all_goals simp only [sync_keep, setC2_keep]
theorem note_keep (d : DsS) (j : JouS) (b n : Nat) : (noteS d j b n).1.keep = d.keep := setC_keep _ _ _

section
variable {W w : World} {S G : List Own} {Φ : PW}
theorem Append_use [Stable Φ] {q : DkP} {d : DsS} (hq : DkQ q d) (hkp : DkK Φ q d) (hoff : ∀ M w, Φ M w → OffI M w) (hT : ∀ M w, Φ M w → TabI M w) {x : JoP} {j : JouS} (hsb : SB x.p x.cap j.list x.o) {lp : Option Addr} {lc : Nat} {l : List ByteArray}
    (hsl : ∀ M w, Φ M w → Sl M w lp l) (hf : (formL l).length ≤ 1000000000) (hb : j.bytes ≤ 1000000000) (hn : j.list.length + l.length < 100000000) (cx : Ctx W w (JoO x q j ++ (dkL q d ++ S)) Φ) {K : Ending → World → Prop}
    (hk : ∀ u p c o w', SB p c (appendS d j l).2.1.list o → DkQ (q.mv u) (appendS d j l).1 → Ctx W w' (JoO (x.mv p c o) q (appendS d j l).2.1 ++ (dkL (q.mv u) (appendS d j l).1 ++ S)) Φ → K (.returned (.int .i64 (appendS d j l).2.2)) w') :
    Calls Tryd.prog F.journal_Journal_Append #[.pointer (some ⟨x.jb, 0, none⟩), .slice lp l.length lc] w K := by
  have hsame : ∀ {e : Int} {w' : World} {G : List Own}, appendS d j l = (d, j, e) → Ctx W w' ((JoO x q j ++ (dkL q d ++ S)) ++ G) Φ → K (.returned (.int .i64 e)) w' := by
    intro e w' G he cx
    rw [he] at hk
    exact hk q.un x.p x.cap x.o w' hsb hq (Ctx.left cx)
  refine (Bjournal_Journal_Append_run x.jb 0 lp l.length lc (J := fun u w' => K (.returned u) w') cx fun w G cx => (form_in (Φ := Φ) hT hsl hf).use cx fun w cx => ⟨_, rfl, _, Φ, inferInstance, cx, fun w G cx => ⟨_, cx.get 1 rfl rfl, Br.intro (fun h => fun w G cx => ?_) (fun h => Br.intro (fun h2 => fun w G cx => ?_) (fun h2 => fun w G cx => ⟨(j.bytes : Int), cx.get 1 rfl rfl, ?_, Br.intro (fun h3 => fun w G cx => ?_) (fun h3 => ?_)⟩))⟩⟩).mono fun e w' ⟨v, he, hj⟩ => by rw [he]; exact hj
  · exact hsame (by unfold appendS; rw [if_pos h]) cx
  · exact hsame (by unfold appendS; rw [if_neg (by rw [h]; simp), if_pos (List.eq_nil_of_length_eq_zero (by have := of_decide_eq_true h2; omega))]) cx
  · rw [bs_size]; unfold I64; omega
  all_goals rw [bs_size] at *
  all_goals have h : ¬ j.broken = true := by rw [h]; simp
  all_goals have h2 : ¬ l = [] := fun e => of_decide_eq_false h2 (by rw [e]; rfl)
  · exact hsame (by unfold appendS; rw [if_neg h, if_neg h2, if_pos (by have := of_decide_eq_true h3; omega)]) cx
  have h3 : ¬ 1048576 < j.bytes + (formL l).length := by have := of_decide_eq_false h3; omega
  have happ : appendS d j l = if (logS d j l).2 ≠ 0 then ((logS d j l).1, { j with broken := true }, (logS d j l).2) else gotS j (j.list ++ l) (j.bytes + (formL l).length) (noteS (logS d j l).1 j (j.bytes + (formL l).length) (j.list.length + l.length)) := by
    unfold appendS; rw [if_neg h, if_neg h2, if_neg h3]
  rw [happ] at hk
  have hlk := log_keep d j l
  have hlog : logS d j l = if (writeS d j.base j.bytes (formL l)).2 = 0 then syncS (writeS d j.base j.bytes (formL l)).1 j.base else writeS d j.base j.bytes (formL l) := rfl
  clear happ hsame
  refine ⟨_, Φ, inferInstance, fun w G cx => cx, some ⟨q.db, 0, none⟩, fun w G cx => ⟨_, cx.get 1 rfl rfl, rfl⟩, j.base, fun w G cx => ⟨_, cx.get 1 rfl rfl, rfl⟩, (j.bytes : Int), fun w G cx => ⟨_, cx.get 1 rfl rfl, rfl⟩, fun w G cx => ?_⟩
  have hwk := write_keep d j.base j.bytes (formL l)
  refine Write_use (S := JoO x q j ++ (S ++ G)) hq hkp (by omega) (jd_in cx) fun u w hq1 cx => ?_
  generalize writeS d j.base j.bytes (formL l) = r at hlog hq1 cx hwk
  obtain ⟨d1, e1⟩ := r
  simp only at hlog hq1 cx hwk
  refine ⟨e1, rfl, JoO x q j ++ (dkL (q.mv u) d1 ++ S), Φ, inferInstance, jd_out cx, ?_⟩
  refine exI_mk (fun n R' Φ' => ∃ u, n = (logS d j l).2 ∧ R' = JoO x q j ++ (dkL (q.mv u) (logS d j l).1 ++ S) ∧ Φ' = Φ ∧ DkQ (q.mv u) (logS d j l).1) ⟨Br.intro (fun h4 => ?_) (fun h4 => ?_), ?_⟩
  · rw [if_pos (of_decide_eq_true h4)] at hlog
    refine ⟨_, Φ, inferInstance, fun w G cx => cx, some ⟨q.db, 0, none⟩, fun w G cx => ⟨_, cx.get 1 rfl rfl, rfl⟩, j.base, fun w G cx => ⟨_, cx.get 1 rfl rfl, rfl⟩, fun w G cx => ?_⟩
    refine Sync_use (q := q.mv u) (S := JoO x q j ++ (S ++ G)) hq1 (hkp.of hwk u) (jd_in cx) fun u w hq2 cx => ⟨_, rfl, JoO x q j ++ (dkL (q.mv u) (syncS d1 j.base).1 ++ S), Φ, inferInstance, jd_out cx, _, Φ, inferInstance, fun w G cx => cx, u, by rw [hlog], by rw [hlog], rfl, by rw [hlog]; exact hq2⟩
  · rw [if_neg (of_decide_eq_false h4)] at hlog
    exact ⟨_, Φ, inferInstance, fun w G cx => cx, u, by rw [hlog], by rw [hlog], rfl, by rw [hlog]; exact hq1⟩
  clear hlog hq1 cx hwk
  rintro n R1 Φ st ⟨u, rfl, rfl, rfl, hq1⟩
  generalize logS d j l = r at hk hq1 hlk
  obtain ⟨d1, e1⟩ := r
  simp only at hk hq1 hlk ⊢
  refine Br.intro (fun h4 => fun w G cx => ⟨cx.can 1 rfl (by show 5 + 1 ≤ 6; omega), fun w' hw' => ?_⟩) (fun h4 => ?_)
  · rw [if_pos (of_decide_eq_true h4)] at hk
    exact ⟨JoO x q { j with broken := true } ++ (dkL (q.mv u) d1 ++ S), Φ, inferInstance, cx.put 1 hw' rfl, fun w G cx => hk u x.p x.cap x.o w hsb hq1 (Ctx.left cx)⟩
  rw [if_neg (of_decide_eq_false h4)] at hk
  refine ⟨_, Φ, inferInstance, fun w G cx => cx, (j.bytes : Int), fun w G cx => ⟨_, cx.get 1 rfl rfl, rfl⟩, x.p, j.list.length, x.cap, fun w G cx => ⟨_, _, _, cx.get 1 rfl rfl, rfl⟩, by unfold I64; omega, by unfold I64; omega, fun w G cx => ?_⟩
  rw [← Int.natCast_add, ← Int.natCast_add]
  have hnk := note_keep d1 j (j.bytes + (formL l).length) (j.list.length + l.length)
  refine Note_use (S := S ++ G) (q := q.mv u) hq1 (hkp.of hlk u) hoff hT (by omega) (by omega) (by rw [← List.append_assoc (dkL _ _), ← List.append_assoc]; exact cx) fun u w hq2 cx => ?_
  have hnl : (noteS d1 j (j.bytes + (formL l).length) (j.list.length + l.length)).2.1.list = j.list := rfl
  have hnb : (noteS d1 j (j.bytes + (formL l).length) (j.list.length + l.length)).2.1.bytes = j.bytes := rfl
  generalize noteS d1 j (j.bytes + (formL l).length) (j.list.length + l.length) = r at hk hq2 cx hnk hnl hnb
  obtain ⟨d2, j2, e2⟩ := r
  simp only at hk hq2 cx hnk hnl hnb
  refine ⟨e2, rfl, JoO x q j2 ++ (dkL (q.mv u) d2 ++ S), Φ, inferInstance, by rw [← List.append_assoc (dkL _ _), ← List.append_assoc] at cx; exact cx, Br.intro (fun h5 => fun w G cx => ?_) (fun h5 => ?_)⟩
  · have e : gotS j (j.list ++ l) (j.bytes + (formL l).length) (d2, j2, e2) = (d2, j2, e2) := by unfold gotS; rw [if_pos (of_decide_eq_true h5)]
    rw [e] at hk
    exact hk u x.p x.cap x.o w (by rw [hnl]; exact hsb) hq2 (Ctx.left cx)
  have e : gotS j (j.list ++ l) (j.bytes + (formL l).length) (d2, j2, e2) = (d2, { j2 with list := j.list ++ l, bytes := j.bytes + (formL l).length }, 0) := by unfold gotS; rw [if_neg (of_decide_eq_false h5)]
  rw [e] at hk
  have hsub : ∀ {o1 o2 o3 : Own} {X : List Own}, [o2].Sublist ([o1, o2, o3] ++ X) := fun {o1 o2 o3 X} => .cons _ (.cons_cons _ (List.nil_sublist _))
  refine ⟨[], tru, inferInstance, fun w G cx => cut_to cx (List.nil_sublist _), [.blk x.jb (joB x q j2) 71], tru, inferInstance, fun w G cx => cut_to cx hsub, fun w G cx => ⟨_, _, _, cx.get 1 rfl rfl, (j.bytes : Int), fun w G cx => ⟨(j2.bytes : Int), cx.get 0 rfl rfl, by rw [hnb]⟩, by unfold I64; omega, fun w G cx => ?_⟩⟩
  rw [hnl]
  obtain ⟨p', cap', w', o', hr, hsb', c2⟩ := hsb.app (c2 := lc) (S := .blk x.jb (joB x q j2) 71 :: clO x.cb q j2.cell :: ((dkL (q.mv u) d2 ++ S) ++ G)) cx hsl (List.length_pos_iff.2 h2) hn
  refine ⟨p', _, cap', w', hr, [o', .blk x.jb (joB x q j2) 71, clO x.cb q j2.cell] ++ (dkL (q.mv u) d2 ++ S), Φ, inferInstance, c2, fun w G cx => cut_to cx (List.nil_sublist _), fun w G cx => cut_to cx hsub, fun w G cx => ⟨cx.can 1 rfl (by show 3 + 1 ≤ 6; omega), fun w' hw' => ?_⟩⟩
  refine ⟨[o', .blk x.jb ((joB x q j2).set 3 (.slice p' (j.list.length + l.length) cap')) 71, clO x.cb q j2.cell] ++ (dkL (q.mv u) d2 ++ S), Φ, inferInstance, cx.put 1 hw' rfl, fun w G cx => cut_to cx (List.nil_sublist _), trivial, fun w G cx => ⟨cx.can 1 rfl (by show 4 + 1 ≤ 6; omega), fun w' hw' => ?_⟩⟩
  rw [← Int.natCast_add] at hw'
  refine ⟨[o', .blk x.jb (((joB x q j2).set 3 (.slice p' (j.list.length + l.length) cap')).set 4 (.int .i64 ((j.bytes + (formL l).length : Nat) : Int))) 71, clO x.cb q j2.cell] ++ (dkL (q.mv u) d2 ++ S), Φ, inferInstance, cx.put 1 hw' rfl, fun w G cx => cut_to cx (List.nil_sublist _), trivial, fun w G cx => ?_⟩
  refine hk u p' cap' o' w hsb' hq2 ?_
  have e3 : joB (x.mv p' cap' o') q { j2 with list := j.list ++ l, bytes := j.bytes + (formL l).length } = ((joB x q j2).set 3 (.slice p' (j.list.length + l.length) cap')).set 4 (.int .i64 ((j.bytes + (formL l).length : Nat) : Int)) := by
    show [_, _, _, Value.slice p' (j.list ++ l).length cap', _, _] = _
    rw [List.length_append]; rfl
  show Ctx W w (o' :: .blk x.jb (joB (x.mv p' cap' o') q { j2 with list := j.list ++ l, bytes := j.bytes + (formL l).length }) 71 :: _) Φ
  rw [e3]
  exact Ctx.left cx
end
end Go.Proofs.YtfccagphnfceiaaDoor
end

/-
  A journal in memory: Cut, Len, Get, All: walked.
-/
section
set_option linter.unusedVariables false
set_option linter.unusedSimpArgs false
namespace Go.Proofs.YtfccagphnfceiaaDoor
open Go.Vc

section
variable {W w : World} {S G : List Own} {Φ : PW}
theorem Cut_use [Stable Φ] {q : DkP} {d : DsS} (hq : DkQ q d) (hkp : DkK Φ q d) (hoff : ∀ M w, Φ M w → OffI M w) (hT : ∀ M w, Φ M w → TabI M w) {x : JoP} {j : JouS} (hsb : SB x.p x.cap j.list x.o) {n : Int}
    (hf : (formL j.list).length ≤ 1000000000) (cx : Ctx W w (JoO x q j ++ (dkL q d ++ S)) Φ) {K : Ending → World → Prop}
    (hk : ∀ u p c o w', SB p c (cutS d j n).2.1.list o → DkQ (q.mv u) (cutS d j n).1 → Ctx W w' (JoO (x.mv p c o) q (cutS d j n).2.1 ++ (dkL (q.mv u) (cutS d j n).1 ++ S)) Φ → K (.returned (.int .i64 (cutS d j n).2.2)) w') :
    Calls Tryd.prog F.journal_Journal_Cut #[.pointer (some ⟨x.jb, 0, none⟩), .int .i64 n] w K := by
  have hsame : ∀ {e : Int} {w' : World} {G : List Own}, cutS d j n = (d, j, e) → Ctx W w' ((JoO x q j ++ (dkL q d ++ S)) ++ G) Φ → K (.returned (.int .i64 e)) w' := by
    intro e w' G he cx
    rw [he] at hk
    exact hk q.un x.p x.cap x.o w' hsb hq (Ctx.left cx)
  have hl := formL_len (l := j.list) fun x hx => Nat.le_trans (formL_size hx) (by omega)
  refine (Bjournal_Journal_Cut_run x.jb 0 n (J := fun u w' => K (.returned u) w') cx fun w G cx => ⟨_, cx.get 1 rfl rfl, Br.intro (fun h => fun w G cx => ?_) (fun h => fun w G cx => ⟨_, _, _, fun _ => cx.get 1 rfl rfl, Br.intro (fun h2 => fun w G cx => ?_) (fun h2 => fun w G cx => ⟨_, _, _, cx.get 1 rfl rfl, Br.intro (fun h3 => fun w G cx => ?_) (fun h3 => fun w G cx => ⟨_, _, _, cx.get 1 rfl rfl, ?_⟩)⟩)⟩)⟩).mono fun e w' ⟨v, he, hj⟩ => by rw [he]; exact hj
  · exact hsame (by unfold cutS; rw [if_pos h]) cx
  all_goals have h : ¬ j.broken = true := by rw [h]; simp
  · have h2 : n < 0 ∨ (j.list.length : Int) < n := by simpa using h2
    exact hsame (by unfold cutS; rw [if_neg h, if_pos h2]) cx
  all_goals have h2 : ¬ (n < 0 ∨ (j.list.length : Int) < n) := by simpa using h2
  · exact hsame (by unfold cutS; rw [if_neg h, if_neg h2, if_pos (of_decide_eq_true h3)]) cx
  have h3 := of_decide_eq_false h3
  obtain ⟨k, rfl⟩ : ∃ k : Nat, n = k := ⟨n.toNat, by omega⟩
  have hk2 : k < j.list.length := by omega
  have hcut : cutS d j (k : Int) = gotS j (j.list.take k) (formL (j.list.take k)).length (noteS d j (formL (j.list.take k)).length k) := by
    unfold cutS; rw [if_neg h, if_neg h2, if_neg h3, Int.toNat_natCast]
  rw [hcut] at hk
  clear hcut hsame
  obtain ⟨g, o2, hp, hcap, _, _⟩ := hsb.cutAt (k := k) (S := .blk x.jb (joB x q j) 71 :: clO x.cb q j.cell :: ((dkL q d ++ S) ++ G)) cx hk2
  have hle : (formL (j.list.take k)).length ≤ (formL j.list).length := by
    have e : formL j.list = formL (j.list.take k) ++ formL (j.list.drop k) := by rw [← formL_app, List.take_append_drop]
    rw [e, List.length_append]; omega
  have hsz : ∀ y ∈ j.list, y.size ≤ maxLen := fun y hy => Nat.le_trans (formL_size hy) (by unfold maxLen; omega)
  have hkl : (j.list.take k).length = k := by rw [List.length_take]; omega
  refine ⟨⟨by omega, by omega⟩, fun w G cx => ?_⟩
  have c2 : Ctx W w ([x.o] ++ (.blk x.jb (joB x q j) 71 :: clO x.cb q j.cell :: ((dkL q d ++ S) ++ G))) Φ := cx
  have hform := form_in (Φ := Go.Vc.Aside W [x.o] Φ) (p := x.p) (cap := x.cap) (l := j.list.take k) (fun M w h => hT M w h.less) (fun M w h => sl_take (hsb.sl hsz h) k) (by omega)
  rw [hkl] at hform
  rw [show subPtr x.p 1 0 x.cap = x.p by rw [hp]; exact subPtr_zero _ _ _, Int.toNat_natCast]
  refine hform.use c2.aside fun w c3 => ⟨_, rfl, JoO x q j ++ (dkL q d ++ S), Φ, inferInstance, c3.unaside, fun w G cx => ?_⟩
  have hnk := note_keep d j (formL (j.list.take k)).length k
  rw [bs_size]
  refine Note_use (S := S ++ G) hq hkp hoff hT (by omega) (by omega) (by rw [← List.append_assoc (dkL _ _), ← List.append_assoc]; exact cx) fun u w hq2 cx => ?_
  have hnl : (noteS d j (formL (j.list.take k)).length k).2.1.list = j.list := rfl
  generalize noteS d j (formL (j.list.take k)).length k = r at hk hq2 cx hnk hnl
  obtain ⟨d2, j2, e2⟩ := r
  simp only at hk hq2 cx hnk hnl
  refine ⟨e2, rfl, JoO x q j2 ++ (dkL (q.mv u) d2 ++ S), Φ, inferInstance, by rw [← List.append_assoc (dkL _ _), ← List.append_assoc] at cx; exact cx, Br.intro (fun h5 => fun w G cx => ?_) (fun h5 => fun w G cx => ⟨x.p, j2.list.length, x.cap, cx.get 1 rfl rfl, ⟨by omega, by omega, by omega⟩, fun w G cx => ⟨cx.can 1 rfl (by show 3 + 1 ≤ 6; omega), fun w' hw' => ?_⟩⟩)⟩
  · have e : gotS j (j.list.take k) (formL (j.list.take k)).length (d2, j2, e2) = (d2, j2, e2) := by unfold gotS; rw [if_pos (of_decide_eq_true h5)]
    rw [e] at hk
    exact hk u x.p x.cap x.o w (by rw [hnl]; exact hsb) hq2 (Ctx.left cx)
  have e : gotS j (j.list.take k) (formL (j.list.take k)).length (d2, j2, e2) = (d2, { j2 with list := j.list.take k, bytes := (formL (j.list.take k)).length }, 0) := by unfold gotS; rw [if_neg (of_decide_eq_false h5)]
  rw [e] at hk
  rw [show subPtr x.p 1 0 k = x.p by rw [hp]; exact subPtr_zero _ _ _] at hw'
  refine ⟨[x.o, .blk x.jb ((joB x q j2).set 3 (.slice x.p k k)) 71, clO x.cb q j2.cell] ++ (dkL (q.mv u) d2 ++ S), Φ, inferInstance, cx.put 1 hw' rfl, fun w G cx => ⟨cx.can 1 rfl (by show 4 + 1 ≤ 6; omega), fun w' hw' => ?_⟩⟩
  refine ⟨[x.o, .blk x.jb (((joB x q j2).set 3 (.slice x.p k k)).set 4 (.int .i64 ((formL (j.list.take k)).length : Int))) 71, clO x.cb q j2.cell] ++ (dkL (q.mv u) d2 ++ S), Φ, inferInstance, cx.put 1 hw' rfl, fun w G cx => ?_⟩
  have cx := Ctx.left cx
  obtain ⟨g3, o3, hp3, _, hsb3, c4⟩ := hsb.cutAt (k := k) (S := .blk x.jb (((joB x q j2).set 3 (.slice x.p k k)).set 4 (.int .i64 ((formL (j.list.take k)).length : Int))) 71 :: clO x.cb q j2.cell :: (dkL (q.mv u) d2 ++ S)) cx hk2
  refine hk u x.p k o3 w hsb3 hq2 ?_
  have e3 : joB (x.mv x.p k o3) q { j2 with list := j.list.take k, bytes := (formL (j.list.take k)).length } = ((joB x q j2).set 3 (.slice x.p k k)).set 4 (.int .i64 ((formL (j.list.take k)).length : Int)) := by
    show [_, _, _, Value.slice x.p (j.list.take k).length k, _, _] = _
    rw [hkl]; rfl
  show Ctx W w (o3 :: .blk x.jb (joB (x.mv x.p k o3) q { j2 with list := j.list.take k, bytes := (formL (j.list.take k)).length }) 71 :: _) Φ
  rw [e3]
  exact c4

theorem Len_use [Stable Φ] {q : DkP} {x : JoP} {j : JouS} (cx : Ctx W w (JoO x q j ++ S) Φ) {K : Ending → World → Prop} (hk : ∀ w', Ctx W w' (JoO x q j ++ S) Φ → K (.returned (.int .i64 (j.list.length : Int))) w') :
    Calls Tryd.prog F.journal_Journal_Len #[.pointer (some ⟨x.jb, 0, none⟩)] w K := by
  refine (Bjournal_Journal_Len_run x.jb 0 (J := fun u w' => K (.returned u) w') cx fun w G cx => ⟨_, _, _, cx.get 1 rfl rfl, fun w G cx => hk w (Ctx.left cx)⟩).mono fun e w' ⟨v, he, hj⟩ => by rw [he]; exact hj
def getJ (l : List ByteArray) (i : Int) : ByteArray := if i < 0 ∨ (l.length : Int) ≤ i then ByteArray.mk #[] else l.getD i.toNat (ByteArray.mk #[])
theorem JGet_use [Stable Φ] {q : DkP} {x : JoP} {j : JouS} (hsb : SB x.p x.cap j.list x.o) {i : Int} (cx : Ctx W w (JoO x q j ++ S) Φ) {K : Ending → World → Prop} (hk : ∀ w', Ctx W w' (JoO x q j ++ S) Φ → K (.returned (.string (getJ j.list i))) w') :
    Calls Tryd.prog F.journal_Journal_Get #[.pointer (some ⟨x.jb, 0, none⟩), .int .i64 i] w K := by
  unfold getJ at hk
  have hp : 0 < j.list.length → ∃ g, x.p = some ⟨g, 0, none⟩ := fun h => by
    obtain ⟨g, hg, _⟩ := hsb.get (S := .blk x.jb (joB x q j) 71 :: clO x.cb q j.cell :: S) cx h
    exact ⟨g, hg⟩
  refine (Bjournal_Journal_Get_run x.jb 0 i (J := fun u w' => K (.returned u) w') cx fun w G cx => ⟨_, _, _, fun _ => cx.get 1 rfl rfl, Br.intro (fun h => fun w G cx => ?_) (fun h => fun w G cx => ⟨_, _, _, cx.get 1 rfl rfl, ?_⟩)⟩).mono fun e w' ⟨v, he, hj⟩ => by rw [he]; exact hj
  · have h : i < 0 ∨ (j.list.length : Int) ≤ i := by simpa using h
    rw [if_pos h] at hk
    exact hk w (Ctx.left cx)
  · have h : ¬ (i < 0 ∨ (j.list.length : Int) ≤ i) := by simpa using h
    rw [if_neg h] at hk
    obtain ⟨g, hg⟩ := hp (by omega)
    refine ⟨⟨by omega, by omega⟩, ptrK_intro g 0 hg fun w G cx => ?_⟩
    have hi : i.toNat < j.list.length := by omega
    obtain ⟨g2, hg2, hc⟩ := hsb.get (S := .blk x.jb (joB x q j) 71 :: clO x.cb q j.cell :: (S ++ G)) cx hi
    rw [hg] at hg2
    cases hg2
    refine ⟨j.list[i.toNat], by rw [Nat.zero_add]; exact hc, fun w G cx => ?_⟩
    rw [List.getD_eq_getElem?_getD, List.getElem?_eq_getElem hi] at hk
    exact hk w (Ctx.left cx)
end
end Go.Proofs.YtfccagphnfceiaaDoor
end

/-
  A journal in memory: All, Open: walked.
-/
section
set_option linter.unusedVariables false
set_option linter.unusedSimpArgs false
namespace Go.Proofs.YtfccagphnfceiaaDoor
open Go.Vc

theorem run_copy0 {P : Program} (w : World) (dT sT ty elem : TypeId) {i : TypeInfo} (hu : P.underlying dT = some (.slice elem)) (hi : P.info? elem = some i) (b : Nat) (q : Option Addr) (c : Nat) :
    (Builtin.copy_ #[dT, sT] ty #[.slice (some ⟨b, 0, none⟩) 0 0, .slice q 0 c]).run P w = .ok (Go.goInt 0) w := by
  simp [Builtin.copy_, run_underlying hu, Builtin.lenOf, Builtin.firstCells, sizeOf, typeInfo, hi]
  cases q <;> simp [loadCells, loadCellsFrom, storeCells, Result.andThen]
section
variable {W w : World} {S G : List Own} {Φ : PW}
/-- copy strings into a block of as many cells -/
theorem copy_strs [Stable Φ] {p : Option Addr} {cap : Nat} {l : List ByteArray} {o : Own} {b : Nat} (hsb : SB p cap l o) (cx : Ctx W w (.blk b (List.replicate l.length (Value.string (ByteArray.mk #[]))) 9 :: o :: S) Φ) :
    ∃ w', Sem.run Tryd.prog (builtin Builtin.copy #[36, 36] 3 #[false, false] #[.slice (some ⟨b, 0, none⟩) l.length l.length, .slice p l.length cap]) w = .ok (.value (.int .i64 l.length)) w' ∧ Ctx W w' (.blk b (strC l) 9 :: o :: S) Φ := by
  obtain ⟨i, z, e1, e2, e3, e4, e5, e6⟩ := appB_out (P := Tryd.prog) (ts := 36) (t := 9) (size := 1) (bytes := 16) (by kernel_rfl)
  by_cases h : l = []
  · subst h
    exact ⟨w, run_cpy (run_copy0 w _ _ _ _ e1 e2 b p cap), cx⟩
  · have hpos := List.length_pos_iff.2 h
    have cx2 := cx.swap
    obtain ⟨g, hg, _⟩ := hsb.get cx2 hpos
    subst hg
    have hsrc : ∀ j v, (strC l)[j]? = some v → w.cell? ((⟨g, 0, none⟩ : Addr).add j) = some v := fun j v hj => by
      have hjl : j < l.length := by have := (List.getElem?_eq_some_iff.1 hj).1; rw [strC_len] at this; exact this
      obtain ⟨g2, hg2, hc⟩ := hsb.get cx2 hjl
      cases hg2
      rw [List.getElem?_map, List.getElem?_eq_getElem hjl] at hj
      rw [addr_add, Nat.zero_add, hc]
      exact hj
    have hcan : CanWrite w b 0 l.length := cx.can 0 rfl (by rw [List.length_replicate]; omega)
    have hr := run_copyN (P := Tryd.prog) w 36 36 3 9 b 0 l.length l.length ⟨g, 0, none⟩ l.length cap (strC l) e1 e2 (by rw [e4, strC_len, Nat.mul_one]; exact (Nat.min_self _).symm) hsrc (fun j hj => (hcan j (by rw [strC_len] at hj; exact hj)).1) (fun j hj => (hcan j (by rw [strC_len] at hj; exact hj)).2) (fun v hv => by
      obtain ⟨y, _, rfl⟩ := List.mem_map.1 hv; rfl)
    rw [show Nat.min l.length l.length = l.length from Nat.min_self _] at hr
    refine ⟨_, run_cpy hr, ?_⟩
    have c3 := cx.puts 0 rfl (b := b) (i := 0) (vs := strC l) rfl
    rw [setL_eq _ _ _ (by rw [strC_len, List.length_replicate]; omega), List.take_zero, List.nil_append, strC_len, Nat.zero_add, List.drop_eq_nil_of_le (by rw [List.length_replicate]; omega), List.append_nil] at c3
    exact c3
theorem All_use [Stable Φ] {q : DkP} {x : JoP} {j : JouS} (hsb : SB x.p x.cap j.list x.o) (hl : j.list.length ≤ 1000000000) (cx : Ctx W w (JoO x q j ++ S) Φ) {K : Ending → World → Prop}
    (hk : ∀ b w', Ctx W w' (.blk b (strC j.list) 9 :: (JoO x q j ++ S)) Φ → K (.returned (.slice (some ⟨b, 0, none⟩) j.list.length j.list.length)) w') :
    Calls Tryd.prog F.journal_Journal_All #[.pointer (some ⟨x.jb, 0, none⟩)] w K := by
  refine (Bjournal_Journal_All_run x.jb 0 (J := fun u w' => K (.returned u) w') cx fun w G cx => ⟨_, _, _, cx.get 1 rfl rfl, ⟨by omega, by omega, by omega, by omega⟩, fun b w G cx => ⟨_, _, _, cx.get 2 rfl rfl, fun w G cx => ?_⟩⟩).mono fun e w' ⟨v, he, hj⟩ => by rw [he]; exact hj
  rw [Int.toNat_natCast] at cx ⊢
  obtain ⟨w', hr, c2⟩ := copy_strs (S := .blk x.jb (joB x q j) 71 :: clO x.cb q j.cell :: (S ++ G)) hsb cx
  exact ⟨_, w', hr, .blk b (strC j.list) 9 :: (JoO x q j ++ S), Φ, inferInstance, c2, fun w G cx => hk b w (Ctx.left cx)⟩

def restJ (base : Int) : Nat → DsS → DsS × Option JouS × Int
  | 0, d => (d, openJ1 d base)
  | k + 1, d => if (syncS d (if k = 0 then base + 1 else base)).2 ≠ 0 then ((syncS d (if k = 0 then base + 1 else base)).1, none, (syncS d (if k = 0 then base + 1 else base)).2) else restJ base k (syncS d (if k = 0 then base + 1 else base)).1
theorem openJ_rest {d : DsS} {base : Int} (h : ¬ (base < 0 ∨ 14 < base)) : openJ d base = restJ base 2 d := by
  unfold openJ; rw [if_neg h]; rfl
theorem openC_none {d : DsS} {f e : Int} (h : openC d f = (none, e)) : e ≠ 0 := by
  unfold openC at h
  repeat' split at h
  all_goals first
    | (cases h; assumption)
    | (cases h; decide)
    | cases h
theorem openC_value {d : DsS} {q : DkP} (hq : DkQ q d) {f e : Int} {c : CelS} (h : openC d f = (some c, e)) : c.value.length ≤ 16777216 ∧ e = 0 := by
  unfold openC at h
  repeat' split at h
  all_goals first
    | (cases h; exact ⟨Nat.zero_le _, rfl⟩)
    | (cases h; exact ⟨read_len hq _ _ _, rfl⟩)
    | cases h
theorem JOpen_use [Stable Φ] {q : DkP} {d : DsS} (hq : DkQ q d) (hkp : DkK Φ q d) (hoff : ∀ M w, Φ M w → OffI M w) (hN : ∀ M w, Φ M w → NumI M w) {base : Int} (cx : Ctx W w (dkL q d ++ S) Φ) {K : Ending → World → Prop}
    (hn : ∀ u d' e w', openJ d base = (d', none, e) → DkQ (q.mv u) d' → d'.keep = d.keep → Ctx W w' (dkL (q.mv u) d' ++ S) Φ → K (.returned (.tuple #[.pointer none, .int .i64 e])) w')
    (hs : ∀ u x d' j w', openJ d base = (d', some j, 0) → SB x.p x.cap j.list x.o → DkQ (q.mv u) d' → d'.keep = d.keep → Ctx W w' (JoO x q j ++ (dkL (q.mv u) d' ++ S)) Φ → K (.returned (.tuple #[.pointer (some ⟨x.jb, 0, none⟩), .int .i64 0])) w') :
    Calls Tryd.prog F.journal_Open #[.pointer (some ⟨q.db, 0, none⟩), .int .i64 base] w K := by
  refine (Bjournal_Open_run q.db 0 base (J := fun u w' => K (.returned u) w') cx fun w G cx => Br.intro (fun h => fun w G cx => ?_) (fun h => ?_)).mono fun e w' ⟨v, he, hj⟩ => by rw [he]; exact hj
  · have h : base < 0 ∨ 14 < base := by simpa using h
    exact hn q.un d 1 w (by unfold openJ; rw [if_pos h]) hq rfl (Ctx.left cx)
  have h : ¬ (base < 0 ∨ 14 < base) := by simpa using h
  have hrest := openJ_rest (d := d) h
  refine ⟨by unfold I64; omega, fun kb => exI_mk (fun n R' Φ' k => ∃ u d1, n = ((2 - k : Nat) : Int) ∧ k ≤ 2 ∧ R' = .blk kb [.int .i64 base, .int .i64 (base + 1)] 3 :: (dkL (q.mv u) d1 ++ S) ∧ Φ' = Φ ∧ DkQ (q.mv u) d1 ∧ d1.keep = d.keep ∧ openJ d base = restJ base k d1) ⟨⟨_, Φ, 2, inferInstance, fun w G cx => cx, q.un, d, rfl, Nat.le_refl _, rfl, rfl, hq, rfl, hrest⟩, ?_⟩⟩
  clear cx
  rintro n R1 Φ k st ⟨u, d1, rfl, hk2, rfl, rfl, hq1, hkeep, hrest⟩
  refine Br.intro (fun hlt => ⟨⟨by omega, of_decide_eq_true hlt⟩, fun w G cx => ?_⟩) (fun hge => ⟨by unfold I64; omega, fun w G cx => ?_⟩)
  · have hlt := of_decide_eq_true hlt
    obtain ⟨k, rfl⟩ : ∃ m, k = m + 1 := ⟨k - 1, by omega⟩
    have hfile : w.cell? ⟨kb, 0 + ((2 - (k + 1) : Nat) : Int).toNat, none⟩ = some (.int .i64 (if k = 0 then base + 1 else base)) := by
      rw [Int.toNat_natCast, Nat.zero_add]
      have hk : k = 0 ∨ k = 1 := by omega
      rcases hk with rfl | rfl
      · exact cx.get 0 rfl rfl
      · exact cx.get 0 rfl rfl
    refine ⟨_, hfile, fun w G cx => ?_⟩
    have hrest : openJ d base = if (syncS d1 (if k = 0 then base + 1 else base)).2 ≠ 0 then ((syncS d1 (if k = 0 then base + 1 else base)).1, none, (syncS d1 (if k = 0 then base + 1 else base)).2) else restJ base k (syncS d1 (if k = 0 then base + 1 else base)).1 := hrest
    have hsk := sync_keep d1 (if k = 0 then base + 1 else base)
    refine Sync_use (q := q.mv u) (S := .blk kb [.int .i64 base, .int .i64 (base + 1)] 3 :: (S ++ G)) hq1 (hkp.of hkeep u) (own_in cx) fun u w hq2 cx => ?_
    generalize syncS d1 (if k = 0 then base + 1 else base) = r at hrest hq2 cx hsk
    obtain ⟨d2, e2⟩ := r
    simp only at hrest hq2 cx hsk
    refine ⟨e2, rfl, .blk kb [.int .i64 base, .int .i64 (base + 1)] 3 :: (dkL (q.mv u) d2 ++ S), Φ, inferInstance, own_out cx, Br.intro (fun h4 => fun w G cx => ?_) (fun h4 => ?_)⟩
    · rw [if_pos (of_decide_eq_true h4)] at hrest
      exact hn u d2 e2 w hrest hq2 (hsk.trans hkeep) (Ctx.left (Ctx.drop1 cx))
    · rw [if_neg (of_decide_eq_false h4)] at hrest
      exact ⟨by unfold I64; omega, _, Φ, k, inferInstance, fun w G cx => cx, ⟨u, d2, by omega, by omega, rfl, rfl, hq2, hsk.trans hkeep, hrest⟩, Nat.lt_succ_self _⟩
  · have hge := of_decide_eq_false hge
    have hk0 : k = 0 := by omega
    subst hk0
    have hrest : openJ d base = (d1, openJ1 d1 base) := hrest
    have cx : Ctx W w (dkL (q.mv u) d1 ++ (S ++ G)) Φ := by
      have this : Ctx W w ((dkL (q.mv u) d1 ++ S) ++ G) Φ := cx.drop1
      rw [List.append_assoc] at this
      exact this
    unfold openJ1 at hrest
    refine COpen_use (q := q.mv u) hq1 hoff cx (fun e w ho cx => ?_) (fun c cb w ho cx => ?_)
    · rw [ho] at hrest
      refine ⟨none, e, rfl, dkL (q.mv u) d1 ++ S, Φ, inferInstance, by rw [List.append_assoc]; exact cx, Br.intro (fun h4 => fun w G cx => ?_) (fun h4 => absurd (Decidable.not_not.1 (of_decide_eq_false h4)) (openC_none ho))⟩
      exact hn u d1 e w hrest hq1 hkeep (Ctx.left cx)
    · rw [ho] at hrest
      have hcv := (openC_value hq1 ho).1
      simp only at hrest
      unfold openJ2 at hrest
      refine ⟨some ⟨cb, 0, none⟩, 0, rfl, clO cb q c :: (dkL (q.mv u) d1 ++ S), Φ, inferInstance, re4 cx, Br.intro (fun h4 => absurd rfl (of_decide_eq_true h4)) (fun h4 => fun w G cx => ?_)⟩
      refine numbers_use (S := (dkL (q.mv u) d1 ++ S) ++ G) hN (by omega) cx fun w cx => ?_
      generalize numsJ c = r at hrest
      obtain ⟨b, m, ok⟩ := r
      simp only at hrest
      refine ⟨b, m, ok, rfl, clO cb q c :: (dkL (q.mv u) d1 ++ S), Φ, inferInstance, cx, Br.intro (fun h5 => fun w G cx => ?_) (fun h5 => fun w G cx => ?_)⟩
      · rw [if_pos (by simpa using h5)] at hrest
        exact hn u d1 2 w hrest hq1 hkeep (Ctx.left (Ctx.drop1 cx))
      rw [if_neg (by simpa using h5)] at hrest
      have hrl := read_len hq1 base 0 b
      refine DRead_use (q := q.mv u) (S := clO cb q c :: (S ++ G)) hq1 (own_in cx) fun w cx => ?_
      generalize readS d1 base 0 b = r at hrest hrl
      obtain ⟨s, e⟩ := r
      simp only at hrest hrl
      refine ⟨bs s, e, rfl, clO cb q c :: (dkL (q.mv u) d1 ++ S), Φ, inferInstance, own_out cx, Br.intro (fun h6 => fun w G cx => ?_) (fun h6 => fun w G cx => ?_)⟩
      · rw [if_pos (of_decide_eq_true h6)] at hrest
        exact hn u d1 e w hrest hq1 hkeep (Ctx.left (Ctx.drop1 cx))
      rw [if_neg (of_decide_eq_false h6)] at hrest
      refine Read_use (S := (clO cb q c :: (dkL (q.mv u) d1 ++ S)) ++ G) hN hrl cx (fun p k cp w hr cx => ?_) (fun p cap l o w hr hsb cx => ?_)
      · rw [hr] at hrest
        refine ⟨p, k, cp, false, rfl, clO cb q c :: (dkL (q.mv u) d1 ++ S), Φ, inferInstance, cx, fun w G cx => Br.intro (fun _ => fun w G cx => ?_) (fun h7 => by simp at h7)⟩
        exact hn u d1 2 w hrest hq1 hkeep (Ctx.left (Ctx.drop1 cx))
      · rw [hr] at hrest
        simp only at hrest
        refine ⟨p, _, cap, true, rfl, o :: clO cb q c :: (dkL (q.mv u) d1 ++ S), Φ, inferInstance, cx, fun w G cx => Br.intro (fun h7 => fun w G cx => ?_) (fun h7 => fun jb w G cx => ?_)⟩
        · have h7 : (s.length : Int) ≠ b := by rw [bs_size] at h7; simpa using h7
          rw [if_pos h7] at hrest
          exact hn u d1 2 w hrest hq1 hkeep (Ctx.left (Ctx.drop1 (Ctx.drop1 cx)))
        · have h7 : (s.length : Int) = b := by rw [bs_size] at h7; simpa using h7
          rw [if_neg (fun h => h h7)] at hrest
          have hb : b = ((b.toNat : Nat) : Int) := by omega
          refine hs u ⟨jb, cb, p, cap, o⟩ d1 _ w hrest hsb hq1 hkeep ?_
          have cx : Ctx W w ([Own.blk jb [.pointer (some ⟨q.db, 0, none⟩), .int .i64 base, .pointer (some ⟨cb, 0, none⟩), .slice p l.length cap, .int .i64 b, .bool false] 71, o] ++ (clO cb q c :: (dkL (q.mv u) d1 ++ S))) Φ := Ctx.left cx
          rw [hb] at cx
          exact cx.perm (List.Perm.swap _ _ _)
end
end Go.Proofs.YtfccagphnfceiaaDoor
end

/-
  The law of reading, in plain Lean: what is opened.
-/
section
set_option linter.unusedVariables false
set_option linter.unusedSimpArgs false
namespace Go.Proofs.YtfccagphnfceiaaDoor
open Go.Vc

theorem write_h {d : DsS} {F a : Int} {s : Bs} (h : DsH d) (hF : 0 ≤ F ∧ F < 16) (ha : 0 ≤ a) (hs : a + s.length ≤ 16777216) : ∃ d', writeS d F a s = (d', 0) ∧ DsH d' ∧ ∀ k, d'.files k = if k = F then ⟨putL (d.files F).now a.toNat s, (d.files F).last⟩ else d.files k := by
  obtain ⟨t1, t2⟩ := tick_h h
  have hm : mayS d F = 0 := by unfold mayS; rw [if_neg (by rw [h.1]; simp), if_neg (by omega)]
  unfold writeS
  rw [if_neg (by rw [t2]; simp), t1]
  unfold write0
  rw [if_neg (by rw [hm]; simp), if_neg (by omega), if_neg (by omega)]
  by_cases hn : s = []
  · subst hn
    refine ⟨d, by rw [if_pos rfl], h, fun k => ?_⟩
    rw [putL_nil]
    split
    · rename_i e; rw [e]
    · rfl
  · rw [if_neg hn]
    exact ⟨_, rfl, h, fun k => rfl⟩
theorem sync_h {d : DsS} {F : Int} (h : DsH d) (hF : 0 ≤ F ∧ F < 16) : ∃ d', syncS d F = (d', 0) ∧ DsH d' ∧ ∀ k, d'.files k = if k = F then ⟨(d.files F).now, (d.files F).now⟩ else d.files k := by
  obtain ⟨t1, t2⟩ := tick_h h
  have hm : mayS d F = 0 := by unfold mayS; rw [if_neg (by rw [h.1]; simp), if_neg (by omega)]
  have hl := h.2.2
  have hf : fallS d = d := by unfold fallS; rw [if_neg (by rw [t2]; simp), t1]
  unfold syncS sync0
  rw [hf, if_neg (by rw [hm]; simp), if_neg (by omega)]
  exact ⟨_, rfl, h, fun k => rfl⟩
/-- what a journal is opened as -/
def readsR (log v : Bs) : Option JouS × Int :=
  if (numsJ ⟨8, 1, v, false⟩).2.2 = true ∧ (numsJ ⟨8, 1, v, false⟩).1 ≤ (log.length : Int) then
    match readJ (log.take (numsJ ⟨8, 1, v, false⟩).1.toNat) (numsJ ⟨8, 1, v, false⟩).2.1 with
    | some l => (some ⟨7, ⟨8, 1, v, false⟩, l, (numsJ ⟨8, 1, v, false⟩).1.toNat, false⟩, 0)
    | none => (none, 2)
  else (none, 2)
theorem nums_nonneg (v : Bs) : 0 ≤ (numsJ ⟨8, 1, v, false⟩).1 ∧ 0 ≤ (numsJ ⟨8, 1, v, false⟩).2.1 := by
  unfold numsJ
  rw [if_neg (show ¬ (1 = 0) by decide)]
  exact ⟨(stepN_nonneg (e := 59) (.inr (.inl rfl)) (v, false)).1, (stepN_nonneg (e := 59) (.inr (.inl rfl)) (rdNat (v, false)).2).1⟩
theorem open_reads {d : DsS} (h : DsH d) {log v : Bs} (h7 : (d.files 7).now = log) (h8 : CelAt (d.files 8).now 1 v) : ∃ d', openJ d 7 = (d', readsR log v) ∧ DsH d' := by
  obtain ⟨d1, e1, k1, f1⟩ := sync_h (F := 7) h (by decide)
  obtain ⟨d2, e2, k2, f2⟩ := sync_h (F := 8) k1 (by decide)
  have g7 : (d2.files 7).now = log := by rw [f2, if_neg (by decide), f1, if_pos rfl, h7]
  have g8 : CelAt (d2.files 8).now 1 v := by rw [f2, if_pos rfl, f1, if_neg (by decide)]; exact h8
  have ho := openC_at k2.1 (F := 8) (by decide) g8
  have hnn := nums_nonneg v
  refine ⟨d2, ?_, k2⟩
  unfold openJ
  rw [if_neg (by decide), e1]
  simp only
  rw [if_neg (by simp), show (7 : Int) + 1 = 8 from rfl, e2]
  simp only
  rw [if_neg (by simp)]
  refine congrArg (fun x => (d2, x)) ?_
  unfold openJ1
  rw [show (7 : Int) + 1 = 8 from rfl, ho]
  simp only
  unfold openJ2 readsR
  generalize numsJ ⟨8, 1, v, false⟩ = r at hnn
  obtain ⟨b, m, ok⟩ := r
  simp only at hnn ⊢
  cases ok with
  | false => rw [if_pos rfl, if_neg (by simp)]
  | true =>
    rw [if_neg (by simp), readS_ok k2.1 (by decide) (by omega) hnn.1, g7]
    simp only
    rw [if_neg (by simp), show (0 : Int).toNat = 0 from rfl, List.drop_zero]
    by_cases hb : b ≤ (log.length : Int)
    · rw [if_pos ⟨trivial, hb⟩]
      cases readJ (log.take b.toNat) m with
      | none => rfl
      | some l =>
        simp only
        rw [if_neg (by rw [List.length_take]; omega)]
    · rw [if_neg fun h => hb h.2]
      cases readJ (log.take b.toNat) m with
      | none => rfl
      | some l =>
        simp only
        rw [if_pos (by rw [List.length_take]; omega)]
end Go.Proofs.YtfccagphnfceiaaDoor
end

/-
  Comparing lists; journals that work: the calls, at one go.
-/
section
set_option linter.unusedVariables false
set_option linter.unusedSimpArgs false
namespace Go.Proofs.YtfccagphnfceiaaDoor
open Go.Vc

section
variable {W w : World} {S G : List Own} {Φ : PW}
theorem Same_in [Stable Φ] {p q : Option Addr} {ac bc : Nat} {a b : List ByteArray} (ha : ∀ M w, Φ M w → Sl M w p a) (hb : ∀ M w, Φ M w → Sl M w q b) (hl : a.length ≤ 1000000000) : GivesIn Φ Tryd.prog F.errataref01_SameTexts #[.slice p a.length ac, .slice q b.length bc] (.bool (decide (a = b))) := by
  refine .there (fun M w h => (ha M w h).there) fun hta => .there (fun M w h => (hb M w h).there) fun htb => ?_
  refine gives_in (Berrataref01_SameTexts_run p a.length ac q b.length bc) fun W R => Br.intro (fun h => fun w G cx => ⟨?_, cx.left⟩) (fun h => ?_)
  · rw [decide_eq_false fun e => of_decide_eq_true h (by rw [e])]
  have h : a.length = b.length := by have := of_decide_eq_false h; omega
  refine exI_mk (fun n R' Φ' k => ∃ i : Nat, n = i ∧ i + k = a.length ∧ R' = R ∧ Φ' = Φ ∧ a.take i = b.take i) ⟨⟨_, Φ, a.length, inferInstance, fun w G cx => cx, 0, rfl, by omega, rfl, rfl, by simp⟩, ?_⟩
  rintro n R1 Φ k _ ⟨i, rfl, hik, rfl, rfl, htk⟩
  refine Br.intro (fun hlt => fun w G cx => ?_) (fun hge => fun w G cx => ⟨?_, cx.left⟩)
  · have hlt : i < a.length := by have := of_decide_eq_true hlt; omega
    obtain ⟨k, rfl⟩ : ∃ m, k = m + 1 := ⟨k - 1, by omega⟩
    obtain ⟨g, o, rfl⟩ := hta (by omega)
    obtain ⟨g2, o2, rfl⟩ := htb (by omega)
    refine ⟨⟨by omega, by omega⟩, ptrK_intro g o rfl ⟨a[i], by rw [Int.toNat_natCast]; exact sl_str (ha _ _ cx.phi) hlt, ⟨by omega, by omega⟩, ptrK_intro g2 o2 rfl ⟨b[i]'(by omega), by rw [Int.toNat_natCast]; exact sl_str (hb _ _ cx.phi) (by omega), Br.intro (fun hne => fun w G cx => ⟨?_, cx.left⟩) (fun he => ?_)⟩⟩⟩
    · rw [decide_eq_false fun e => of_decide_eq_true hne (by simp only [e])]
    · refine ⟨by unfold I64; omega, _, Φ, k, inferInstance, fun w G cx => cx, ⟨i + 1, by omega, by omega, rfl, rfl, ?_⟩, Nat.lt_succ_self _⟩
      rw [List.take_succ_eq_append_getElem hlt, List.take_succ_eq_append_getElem (by omega : i < b.length), htk, Decidable.not_not.1 (of_decide_eq_false he)]
  · have hge : i = a.length := by have := of_decide_eq_false hge; omega
    subst hge
    rw [List.take_length, h, List.take_length] at htk
    rw [decide_eq_true htk]

/-- the tables that the program reads -/
structure JI (Φ : PW) : Prop where
  num : ∀ M w, Φ M w → NumI M w
  off : ∀ M w, Φ M w → OffI M w
theorem JI.tab (h : JI Φ) : ∀ M w, Φ M w → TabI M w := fun M w hp => (h.num M w hp).1
theorem JI.weak (h : JI Φ) {Ψ : PW} (e : ∀ M w, Ψ M w → Φ M w) : JI Ψ := ⟨fun M w hp => h.num M w (e M w hp), fun M w hp => h.off M w (e M w hp)⟩
/-- a journal in memory -/
structure JM (Φ : PW) (q : DkP) (d : DsS) (x : JoP) (j : JouS) : Prop where
  dq : DkQ q d
  kk : DkK Φ q d
  sb : SB x.p x.cap j.list x.o
theorem JM.weak {q : DkP} {d : DsS} {x : JoP} {j : JouS} (h : JM Φ q d x j) {Ψ : PW} (e : ∀ M w, Ψ M w → Φ M w) : JM Ψ q d x j := ⟨h.dq, h.kk.weak e, h.sb⟩
/-- one that works -/
structure JF (d : DsS) (j : JouS) : Prop where
  live : Live d j
  ok : j.broken = false
  fine : DsH d
theorem live_len {d : DsS} {j : JouS} (h : Live d j) : j.list.length ≤ 1048576 ∧ j.bytes ≤ 1048576 ∧ ∀ x ∈ j.list, x.size ≤ 1048576 := by
  have h1 := h.most
  have h2 := formL_len (l := j.list) fun x hx => Nat.le_trans (formL_size hx) (by omega)
  have h3 := h.bytes
  exact ⟨by omega, by omega, fun x hx => Nat.le_trans (formL_size hx) h1⟩
theorem append_nil (d : DsS) {j : JouS} (h : j.broken = false) : appendS d j [] = (d, j, 0) := by
  unfold appendS; rw [if_neg (by rw [h]; simp), if_pos rfl]

theorem FAppend_use [Stable Φ] (hi : JI Φ) {q : DkP} {d : DsS} {x : JoP} {j : JouS} (hm : JM Φ q d x j) (hf : JF d j) {lp : Option Addr} {lc : Nat} {l : List ByteArray} (hsl : ∀ M w, Φ M w → Sl M w lp l) (hl : (formL j.list).length + (formL l).length ≤ 1048576) (cx : Ctx W w (JoO x q j ++ (dkL q d ++ S)) Φ) {K : Ending → World → Prop}
    (hk : ∀ u p c o d' j' w', JM Φ (q.mv u) d' (x.mv p c o) j' → JF d' j' → j'.list = j.list ++ l → j'.base = j.base → d'.keep = d.keep → (∀ G, Ev (d.files G) (d'.files G) ∨ (G = j.base ∨ G = j.base + 1)) → Ctx W w' (JoO (x.mv p c o) q j' ++ (dkL (q.mv u) d' ++ S)) Φ → K (.returned (.int .i64 0)) w') :
    Calls Tryd.prog F.journal_Journal_Append #[.pointer (some ⟨x.jb, 0, none⟩), .slice lp l.length lc] w K := by
  obtain ⟨h1, h2, h3⟩ := live_len hf.live
  have h4 := formL_len (l := l) fun x hx => Nat.le_trans (formL_size hx) (by omega)
  have hb := hf.live.bytes
  refine Append_use hm.dq hm.kk hi.off hi.tab hm.sb hsl (by omega) (by omega) (by omega) cx fun u p c o w hsb hq cx => ?_
  have hkeep : (appendS d j l).1.keep = d.keep := by
    unfold appendS
    split
    · rfl
    · split
      · rfl
      · split
        · rfl
        · split
          · exact log_keep _ _ _
          · unfold gotS; split
            · show (noteS _ _ _ _).1.keep = _
              rw [note_keep, log_keep]
            · show (noteS _ _ _ _).1.keep = _
              rw [note_keep, log_keep]
  by_cases hnil : l = []
  · subst hnil
    rw [append_nil d hf.ok] at hsb hq cx ⊢
    exact hk u p c o d j w ⟨hq, hm.kk.of rfl u, hsb⟩ hf (by simp) rfl rfl (fun G => .inl (.refl _)) cx
  have ho := append_out hf.live hf.ok hm.dq.w hnil (by omega)
  obtain ⟨hfin, he⟩ := ho.fine hf.fine
  rcases ho.or with ⟨_, g1, g2, g3⟩ | ⟨g, _⟩
  · rw [he]
    exact hk u p c o _ _ w ⟨hq, hm.kk.of hkeep u, hsb⟩ ⟨g3, g1, hfin⟩ g2 ho.base hkeep ho.other cx
  · rw [he] at g; omega
theorem got_keep (j : JouS) (l : List ByteArray) (b : Nat) (r : DsS × JouS × Int) : (gotS j l b r).1 = r.1 := by
  unfold gotS; split <;> rfl
theorem cutS_keep (d : DsS) (j : JouS) (n : Int) : (cutS d j n).1.keep = d.keep := by
  unfold cutS
  split
  · rfl
  · split
    · rfl
    · split
      · rfl
      · rw [got_keep, note_keep]
theorem FCut_use [Stable Φ] (hi : JI Φ) {q : DkP} {d : DsS} {x : JoP} {j : JouS} (hm : JM Φ q d x j) (hf : JF d j) {n : Int} (cx : Ctx W w (JoO x q j ++ (dkL q d ++ S)) Φ) {K : Ending → World → Prop}
    (hk : ∀ u p c o d' j' e w', JM Φ (q.mv u) d' (x.mv p c o) j' → JF d' j' → j'.list = (if 0 ≤ n ∧ n ≤ (j.list.length : Int) then j.list.take n.toNat else j.list) → e = (if 0 ≤ n ∧ n ≤ (j.list.length : Int) then 0 else 1) → j'.base = j.base → d'.keep = d.keep → (∀ G, Ev (d.files G) (d'.files G) ∨ (G = j.base ∨ G = j.base + 1)) → Ctx W w' (JoO (x.mv p c o) q j' ++ (dkL (q.mv u) d' ++ S)) Φ → K (.returned (.int .i64 e)) w') :
    Calls Tryd.prog F.journal_Journal_Cut #[.pointer (some ⟨x.jb, 0, none⟩), .int .i64 n] w K := by
  have hmost := hf.live.most
  refine Cut_use hm.dq hm.kk hi.off hi.tab hm.sb (by omega) cx fun u p c o w hsb hq cx => ?_
  have hkeep := cutS_keep d j n
  have hb : ¬ j.broken = true := by rw [hf.ok]; simp
  by_cases h1 : n < 0 ∨ (j.list.length : Int) < n
  · have e : cutS d j n = (d, j, 1) := by unfold cutS; rw [if_neg hb, if_pos h1]
    rw [e] at hsb hq cx hkeep ⊢
    exact hk u p c o d j 1 w ⟨hq, hm.kk.of rfl u, hsb⟩ hf (by rw [if_neg (by omega)]) (by rw [if_neg (by omega)]) rfl rfl (fun G => .inl (.refl _)) cx
  · by_cases h2 : n = (j.list.length : Int)
    · have e : cutS d j n = (d, j, 0) := by unfold cutS; rw [if_neg hb, if_neg h1, if_pos h2]
      rw [e] at hsb hq cx hkeep ⊢
      exact hk u p c o d j 0 w ⟨hq, hm.kk.of rfl u, hsb⟩ hf (by rw [if_pos (by omega), List.take_of_length_le (by omega)]) (by rw [if_pos (by omega)]) rfl rfl (fun G => .inl (.refl _)) cx
    · obtain ⟨k, rfl⟩ : ∃ k : Nat, n = k := ⟨n.toNat, by omega⟩
      have ho := cut_out hf.live hf.ok hm.dq.w (n := k) (by omega)
      obtain ⟨hfin, he⟩ := ho.fine hf.fine
      rcases ho.or with ⟨_, g1, g2, g3⟩ | ⟨g, _⟩
      · rw [he]
        exact hk u p c o _ _ 0 w ⟨hq, hm.kk.of hkeep u, hsb⟩ ⟨g3, g1, hfin⟩ (by rw [if_pos (by omega), g2, Int.toNat_natCast]) (by rw [if_pos (by omega)]) ho.base hkeep ho.other cx
      · rw [he] at g; omega
theorem FOpen_use [Stable Φ] (hi : JI Φ) {q : DkP} {d : DsS} (hq : DkQ q d) (hkk : DkK Φ q d) (hf : DsH d) {b : Int} (hb : 0 ≤ b ∧ b ≤ 14) {P : List ByteArray → Prop} (hJ : JFut d b P) (cx : Ctx W w (dkL q d ++ S) Φ) {K : Ending → World → Prop}
    (hk : ∀ u x d' j w', JM Φ (q.mv u) d' x j → JF d' j → P j.list → j.base = b → d'.keep = d.keep → (∀ G, Ev (d.files G) (d'.files G) ∨ (G = b ∨ G = b + 1)) → Ctx W w' (JoO x q j ++ (dkL (q.mv u) d' ++ S)) Φ → K (.returned (.tuple #[.pointer (some ⟨x.jb, 0, none⟩), .int .i64 0])) w') :
    Calls Tryd.prog F.journal_Open #[.pointer (some ⟨q.db, 0, none⟩), .int .i64 b] w K := by
  have ho := openJ_out hb hq.w hJ
  obtain ⟨hfin, he⟩ := ho.fine hf
  refine JOpen_use hq hkk hi.off hi.num cx (fun u d' e w hop hq' hkeep cx => ?_) (fun u x d' j w hop hsb hq' hkeep cx => ?_)
  · rcases ho.or with ⟨j, h1, _⟩ | ⟨_, h1, _⟩
    · rw [hop] at h1; cases h1
    · omega
  · rcases ho.or with ⟨j2, h1, _, h3, h4, h5, h6⟩ | ⟨h1, _⟩
    · have hoth := ho.other
      rw [hop] at h1 hfin h3 hoth
      cases h1
      exact hk u x d' j w ⟨hq', hkk.of hkeep u, hsb⟩ ⟨h3, h6, hfin⟩ h4 h5 hkeep hoth cx
    · rw [hop] at h1; cases h1
end
end Go.Proofs.YtfccagphnfceiaaDoor
end

/-
  The example of the laws of journals; the checks of what comes in: walked.
-/
section
set_option linter.unusedVariables false
set_option linter.unusedSimpArgs false
namespace Go.Proofs.YtfccagphnfceiaaDoor
open Go.Vc

theorem formL_le {l : List ByteArray} {m : Nat} (h : ∀ x ∈ l, x.size ≤ m) (hm : m ≤ 1000000000) : (formL l).length ≤ l.length * (m + 32) := by
  induction l with
  | nil => exact Nat.zero_le _
  | cons x l ih =>
    have h1 := ih fun y hy => h y (by simp [hy])
    have h2 := h x (by simp)
    have h3 := textB_size (s := x) (by omega)
    rw [formL_cons, List.length_append, List.length_cons, Nat.add_mul, Nat.one_mul, list_size]
    omega
section
variable {W w : World} {S R G : List Own} {Φ : PW}
theorem froz [Stable Φ] {b : Nat} {l : List ByteArray} (hs : ∀ x ∈ l, x.size ≤ maxLen) (cx : Ctx W w (.blk b (strC l) 9 :: S) Φ) : Ctx W w S (fun M w => Φ M w ∧ Sl M w (some ⟨b, 0, none⟩) l) := by
  obtain ⟨c1, h1⟩ := cx.freezeBlk (elems_strJ hs)
  exact c1.add h1
theorem j_in {A X S G : List Own} (cx : Ctx W w ((A ++ (X ++ S)) ++ G) Φ) : Ctx W w (A ++ (X ++ (S ++ G))) Φ := by
  rw [List.append_assoc, List.append_assoc] at cx; exact cx
theorem j_out {A X S G : List Own} (cx : Ctx W w (A ++ (X ++ (S ++ G))) Φ) : Ctx W w ((A ++ (X ++ S)) ++ G) Φ := by
  rw [List.append_assoc, List.append_assoc]; exact cx
theorem small_in [Stable Φ] (hi : JI Φ) : GivesIn Φ Tryd.prog F.erratalaw06_small #[] (.bool true) := by
  refine gives_in Berratalaw06_small_run fun W R => fun w G cx => DNew_use cx fun q w hq cx => ?_
  have hi1 : JI (fun M w => Φ M w ∧ dkF q dsNew M w) := hi.weak fun _ _ h => h.1
  have hkk : DkK (fun M w => Φ M w ∧ dkF q dsNew M w) q dsNew := ⟨Nat.zero_le _, fun M w h => h.2⟩
  refine ⟨_, rfl, dkL q dsNew ++ R, fun M w => Φ M w ∧ dkF q dsNew M w, inferInstance, cx.re (List.append_assoc _ _ _).symm, Br.intro (fun h => by cases h) (fun _ => fun w G cx => ?_)⟩
  refine FOpen_use hi1 hq hkk dsNew_h ⟨by decide, by decide⟩ (new_fut 3) (cx.re (List.append_assoc _ _ _)) fun u x d j w hm hf hl hb hkeep _ cx => ?_
  have hl : j.list = [] := hl
  refine ⟨_, _, rfl, JoO x q j ++ (dkL (q.mv u) d ++ R), _, inferInstance, by rw [← List.append_assoc (dkL _ _), ← List.append_assoc] at cx; exact cx, Br.intro (fun h => by cases h) (fun _ => fun w G cx => ?_)⟩
  refine Len_use (S := (dkL (q.mv u) d ++ R) ++ G) cx fun w cx => ⟨_, rfl, JoO x q j ++ (dkL (q.mv u) d ++ R), _, inferInstance, cx, fun b1 w G cx => ?_⟩
  -- two strings
  have s1 : ∀ y ∈ [ByteArray.mk #[97], ByteArray.mk #[98, 99]], y.size ≤ 2 := by
    intro y hy
    simp only [List.mem_cons, List.not_mem_nil, or_false] at hy
    rcases hy with rfl | rfl <;> decide
  have c1 := froz (S := (JoO x q j ++ (dkL (q.mv u) d ++ R)) ++ G) (fun y hy => Nat.le_trans (s1 y hy) (by unfold maxLen; omega)) cx
  have f1 := formL_le s1 (by omega)
  have g0 : formL j.list = [] := by rw [hl]; rfl
  refine FAppend_use (lp := some ⟨b1, 0, none⟩) (lc := 2) (l := [ByteArray.mk #[97], ByteArray.mk #[98, 99]]) (S := R ++ G) (hi1.weak fun _ _ h => h.1) (hm.weak fun _ _ h => h.1) hf (fun M w h => h.2) (by rw [g0]; simp at f1 ⊢; omega) (j_in c1) fun u1 p c o d1 j1 w hm1 hf1 hl1 hb1 hk1 _ cx => ?_
  have hm1 : JM (fun M w => Φ M w ∧ dkF q dsNew M w) ((q.mv u).mv u1) d1 (x.mv p c o) j1 := ⟨hm1.dq, hm.kk.of hk1 u1, hm1.sb⟩
  rw [hl, List.nil_append] at hl1
  refine ⟨0, rfl, JoO (x.mv p c o) q j1 ++ (dkL (q.mv u1) d1 ++ R), _, inferInstance, (j_out cx).weak fun _ _ h => h.1, fun w G cx => ?_⟩
  -- nothing
  have g1 : (formL j1.list).length ≤ 100 := by rw [hl1]; simp at f1 ⊢; omega
  refine FAppend_use (q := (q.mv u).mv u1) (S := R ++ G) hi1 hm1 hf1 (lp := none) (lc := 0) (l := []) (fun M w h => Sl.nil) (by show (formL j1.list).length + 0 ≤ _; omega) (j_in cx) fun u2 p c o d2 j2 w hm2 hf2 hl2 hb2 hk2 _ cx => ?_
  have hm2 : JM (fun M w => Φ M w ∧ dkF q dsNew M w) (((q.mv u).mv u1).mv u2) d2 (x.mv p c o) j2 := ⟨hm2.dq, hm1.kk.of hk2 u2, hm2.sb⟩
  rw [hl1, List.append_nil] at hl2
  refine ⟨0, rfl, JoO (x.mv p c o) q j2 ++ (dkL (q.mv u2) d2 ++ R), _, inferInstance, j_out cx, fun b2 w G cx => ?_⟩
  -- one more
  have s3 : ∀ y ∈ [ByteArray.mk #[100]], y.size ≤ 2 := by
    intro y hy
    rw [List.mem_singleton.1 hy]; decide
  have f3 := formL_le s3 (by omega)
  have g2 : (formL j2.list).length ≤ 100 := by rw [hl2]; simp at f1 ⊢; omega
  have c3 := froz (S := (JoO (x.mv p c o) q j2 ++ (dkL (q.mv u2) d2 ++ R)) ++ G) (fun y hy => Nat.le_trans (s3 y hy) (by unfold maxLen; omega)) cx
  refine FAppend_use (q := ((q.mv u).mv u1).mv u2) (lp := some ⟨b2, 0, none⟩) (lc := 1) (l := [ByteArray.mk #[100]]) (S := R ++ G) (hi1.weak fun _ _ h => h.1) (hm2.weak fun _ _ h => h.1) hf2 (fun M w h => h.2) (by simp at f3 ⊢; omega) (j_in c3) fun u3 p c o d3 j3 w hm3 hf3 hl3 hb3 hk3 _ cx => ?_
  have hm3 : JM (fun M w => Φ M w ∧ dkF q dsNew M w) ((((q.mv u).mv u1).mv u2).mv u3) d3 (x.mv p c o) j3 := ⟨hm3.dq, hm2.kk.of hk3 u3, hm3.sb⟩
  rw [hl2] at hl3
  refine ⟨0, rfl, JoO (x.mv p c o) q j3 ++ (dkL (q.mv u3) d3 ++ R), _, inferInstance, (j_out cx).weak fun _ _ h => h.1, fun w G cx => ?_⟩
  -- the cut
  refine FCut_use (q := (((q.mv u).mv u1).mv u2).mv u3) (S := R ++ G) hi1 hm3 hf3 (j_in cx) fun u4 p c o d4 j4 e w hm4 hf4 hl4 he4 hb4 hk4 _ cx => ?_
  have hm4 : JM (fun M w => Φ M w ∧ dkF q dsNew M w) (((((q.mv u).mv u1).mv u2).mv u3).mv u4) d4 (x.mv p c o) j4 := ⟨hm4.dq, hm3.kk.of hk4 u4, hm4.sb⟩
  rw [hl3, if_pos (by decide)] at he4 hl4
  have hl4 : j4.list = [ByteArray.mk #[97], ByteArray.mk #[98, 99]] := hl4
  subst he4
  refine ⟨0, rfl, JoO (x.mv p c o) q j4 ++ (dkL (q.mv u4) d4 ++ R), _, inferInstance, j_out cx, fun w G cx => ?_⟩
  -- all
  have l4 := (live_len hf4.live)
  refine All_use (q := q) (S := (dkL (q.mv u4) d4 ++ R) ++ G) hm4.sb (by omega) cx fun b3 w cx => ?_
  have c5 := froz (S := (JoO (x.mv p c o) q j4 ++ (dkL (q.mv u4) d4 ++ R)) ++ G) (fun y hy => Nat.le_trans (l4.2.2 y hy) (by unfold maxLen; omega)) cx
  refine ⟨_, _, _, rfl, JoO (x.mv p c o) q j4 ++ (dkL (q.mv u4) d4 ++ R), _, inferInstance, c5, fun b4 w G cx => ?_⟩
  have c6 := froz (S := (JoO (x.mv p c o) q j4 ++ (dkL (q.mv u4) d4 ++ R)) ++ G) (fun y hy => Nat.le_trans (s1 y hy) (by unfold maxLen; omega)) cx
  refine (Same_in (Φ := fun M w => ((Φ M w ∧ dkF q dsNew M w) ∧ Sl M w (some ⟨b3, 0, none⟩) j4.list) ∧ Sl M w (some ⟨b4, 0, none⟩) [ByteArray.mk #[97], ByteArray.mk #[98, 99]]) (fun M w h => h.1.2) (fun M w h => h.2) (by omega)).use c6 fun w cx => ?_
  rw [decide_eq_true hl4]
  refine ⟨true, rfl, JoO (x.mv p c o) q j4 ++ (dkL (q.mv u4) d4 ++ R), fun M w => Φ M w ∧ dkF q dsNew M w, inferInstance, cx.weak fun _ _ h => h.1.1, fun b5 w G cx => ?_⟩
  -- a last one
  have s7 : ∀ y ∈ [ByteArray.mk #[101]], y.size ≤ 2 := by
    intro y hy
    rw [List.mem_singleton.1 hy]; decide
  have f7 := formL_le s7 (by omega)
  have g4 : (formL j4.list).length ≤ 100 := by rw [hl4]; simp at f1 ⊢; omega
  have c7 := froz (S := (JoO (x.mv p c o) q j4 ++ (dkL (q.mv u4) d4 ++ R)) ++ G) (fun y hy => Nat.le_trans (s7 y hy) (by unfold maxLen; omega)) cx
  refine FAppend_use (q := ((((q.mv u).mv u1).mv u2).mv u3).mv u4) (lp := some ⟨b5, 0, none⟩) (lc := 1) (l := [ByteArray.mk #[101]]) (S := R ++ G) (hi1.weak fun _ _ h => h.1) (hm4.weak fun _ _ h => h.1) hf4 (fun M w h => h.2) (by simp at f7 ⊢; omega) (j_in c7) fun u5 p c o d5 j5 w hm5 hf5 hl5 hb5 hk5 _ cx => ?_
  rw [hl4] at hl5
  refine ⟨0, rfl, JoO (x.mv p c o) q j5 ++ (dkL (q.mv u5) d5 ++ R), _, inferInstance, j_out cx, ?_⟩
  have hj0 : (j.list.length : Int) = 0 := by rw [hl]; rfl
  rw [hj0]
  refine Br.intro (fun _ => Br.intro (fun _ => Br.intro (fun _ => Br.intro (fun _ => Br.intro (fun _ => Br.intro (fun _ => Br.intro (fun _ => Br.intro (fun _ => ?_) (fun h => by cases h)) (fun h => by cases h)) (fun h => by cases h)) (fun h => by cases h)) (fun h => by cases h)) (fun h => by cases h)) (fun h => by cases h)) (fun h => by cases h)
  refine fun w G cx => JGet_use (q := q) (S := (dkL (q.mv u5) d5 ++ R) ++ G) hm5.sb cx fun w cx => ?_
  have e2 : getJ j5.list 2 = ByteArray.mk #[101] := by rw [hl5]; rfl
  have e3 : getJ j5.list 3 = ByteArray.mk #[] := by rw [hl5]; rfl
  rw [e2]
  refine ⟨_, rfl, JoO (x.mv p c o) q j5 ++ (dkL (q.mv u5) d5 ++ R), _, inferInstance, cx, Br.intro (fun _ => fun w G cx => ?_) (fun h => absurd rfl (of_decide_eq_false h))⟩
  refine JGet_use (q := q) (S := (dkL (q.mv u5) d5 ++ R) ++ G) hm5.sb cx fun w cx => ?_
  rw [e3]
  refine ⟨_, rfl, JoO (x.mv p c o) q j5 ++ (dkL (q.mv u5) d5 ++ R), _, inferInstance, cx, fun w G cx => ⟨?_, ?_⟩⟩
  · rw [decide_eq_true (rfl : ByteArray.mk #[] = ByteArray.mk #[])]
  · have c9 := Ctx.left cx
    exact (Ctx.right (S := JoO (x.mv p c o) q j5) c9 |> Ctx.right (S := dkL (q.mv u5) d5)).weak fun _ _ h => h.1.1
end
end Go.Proofs.YtfccagphnfceiaaDoor
end

/-
  The conditions of the walks of some functions, one formula each; 'B<f>_run' says that they suffice. The formulas are printed by a program; the kernel compares them with the functions' code.
-/
section
namespace Go.Proofs.YtfccagphnfceiaaDoor
set_option linter.unusedVariables false
set_option linter.unusedSimpArgs false
set_option maxRecDepth 100000
open Go.Vc

/-- erratalaw06.JournalReads -/
-- loop at region 28: 18 list, 20 i; blocks 
-- cut 10: 11 value; blocks 
-- cut 23: 18 list; blocks 
-- cut 32: 17 ok, 18 list; blocks 
def Merratalaw06_JournalReads (log : ByteArray) (bytes : Int) (n : Int) (raw : ByteArray) (W : World) (R : List Own) (Φ : PW) (J : Value → World → Prop) : Prop :=
  ∀ (w0 : World) (R1 : List Own), Ctx W w0 (R ++ R1) Φ → Calls Tryd.prog F.erratalaw06_small #[] w0 fun (e2 : Ending) (w3 : World) => ∃ (c4 : Bool), e2 = Ending.returned (Value.bool c4) ∧ ∃
  (R5 : List Own), ∃ (Φ6 : PW), Stable Φ6 ∧ Ctx W w3 (R5 ++ R1) Φ6 ∧ ∀ (w7 : World) (R8 : List Own), Ctx W w7 (R5 ++ R8) Φ6 → Br (decide (300 < (↑log.size : Int)) || decide (300 < (↑raw.size
  : Int)) || decide (400 < n)) (∀ (w9 : World) (R10 : List Own), Ctx W w9 (R5 ++ R10) Φ6 → J (Value.bool c4) w9) (∀ (w11 : World) (R12 : List Own), Ctx W w11 (R5 ++ R12) Φ6 → Calls Tryd.prog
  F.disk_New #[] w11 fun (e13 : Ending) (w14 : World) => ∃ (p15 : Option Addr), e13 = Ending.returned (Value.pointer p15) ∧ ∃ (R16 : List Own), ∃ (Φ17 : PW), Stable Φ17 ∧ Ctx W w14 (R16 ++
  R12) Φ17 ∧ Br p15.isNone (∀ (w18 : World) (R19 : List Own), Ctx W w18 (R16 ++ R19) Φ17 → J (Value.bool false) w18) (exI fun (I20 : ByteArray → List Own → PW → Prop) => Br (decide (raw =
  ByteArray.mk #[])) (∀ (w21 : World) (R22 : List Own), Ctx W w21 (R16 ++ R22) Φ17 → Calls Tryd.prog F.wire_Int #[Value.int IntKind.i64 bytes] w21 fun (e23 : Ending) (w24 : World) => ∃ (s25 :
  ByteArray), e23 = Ending.returned (Value.string s25) ∧ ∃ (R26 : List Own), ∃ (Φ27 : PW), Stable Φ27 ∧ Ctx W w24 (R26 ++ R22) Φ27 ∧ ∀ (w28 : World) (R29 : List Own), Ctx W w28 (R26 ++ R29)
  Φ27 → Calls Tryd.prog F.wire_Int #[Value.int IntKind.i64 n] w28 fun (e30 : Ending) (w31 : World) => ∃ (s32 : ByteArray), e30 = Ending.returned (Value.string s32) ∧ ∃ (R33 : List Own), ∃
  (Φ34 : PW), Stable Φ34 ∧ Ctx W w31 (R33 ++ R29) Φ34 ∧ (s25.size + s32.size).le 9223372036854775807 ∧ ∃ (R35 : List Own), ∃ (Φ36 : PW), Stable Φ36 ∧ (∀ (w37 : World) (R38 : List Own), Ctx W
  w37 (R33 ++ R38) Φ34 → Ctx W w37 (R35 ++ R38) Φ36) ∧ I20 (s25 ++ s32) R35 Φ36) (∃ (R39 : List Own), ∃ (Φ40 : PW), Stable Φ40 ∧ (∀ (w41 : World) (R42 : List Own), Ctx W w41 (R16 ++ R42) Φ17
  → Ctx W w41 (R39 ++ R42) Φ40) ∧ I20 raw R39 Φ40) ∧ ∀ (s43 : ByteArray) (R44 : List Own) (I45 : List Nat → World → Prop), Stable I45 → I20 s43 R44 I45 → ∀ (w46 : World) (R47 : List Own), Ctx
  W w46 (R44 ++ R47) I45 → Calls Tryd.prog F.disk_Disk_Write #[Value.pointer p15, Value.int IntKind.i64 7, Value.int IntKind.i64 0, Value.string log] w46 fun (e48 : Ending) (w49 : World) => ∃
  (n50 : Int), e48 = Ending.returned (Value.int IntKind.i64 n50) ∧ ∃ (R51 : List Own), ∃ (Φ52 : PW), Stable Φ52 ∧ Ctx W w49 (R51 ++ R47) Φ52 ∧ ∀ (w53 : World) (R54 : List Own), Ctx W w53 (R51
  ++ R54) Φ52 → Calls Tryd.prog F.disk_Disk_Write #[Value.pointer p15, Value.int IntKind.i64 8, Value.int IntKind.i64 64, Value.string s43] w53 fun (e55 : Ending) (w56 : World) => ∃ (n57 :
  Int), e55 = Ending.returned (Value.int IntKind.i64 n57) ∧ ∃ (R58 : List Own), ∃ (Φ59 : PW), Stable Φ59 ∧ Ctx W w56 (R58 ++ R54) Φ59 ∧ ∃ (n60 : Int), (∀ (w61 : World), Sem.run Tryd.prog
  (binOp BinOp.shr 3 (Value.int IntKind.i64 (↑s43.size : Int)) (Value.int IntKind.u64 8)) w61 = Result.ok (Value.int IntKind.i64 n60) w61) ∧ ∀ (k62 : Nat) (w63 : World) (R64 : List Own), Ctx
  W w63 (Own.blk k62 [Value.int IntKind.u8 1, Value.int IntKind.u8 (IntKind.u8.wrap (↑s43.size : Int)), Value.int IntKind.u8 (IntKind.u8.wrap n60), Value.int IntKind.u8 0, Value.int
  IntKind.u8 0] 5 :: R58 ++ R64) Φ59 → ∃ (s65 : ByteArray), ∃ (w66 : World), Sem.run Tryd.prog (convert 29 9 (Value.slice (some (Addr.mk k62 0 none)) 5 5)) w63 = Result.ok (Value.string s65)
  w66 ∧ ∃ (R67 : List Own), ∃ (Φ68 : PW), Stable Φ68 ∧ Ctx W w66 (R67 ++ R64) Φ68 ∧ ∀ (w69 : World) (R70 : List Own), Ctx W w69 (R67 ++ R70) Φ68 → Calls Tryd.prog F.disk_Disk_Write
  #[Value.pointer p15, Value.int IntKind.i64 8, Value.int IntKind.i64 0, Value.string s65] w69 fun (e71 : Ending) (w72 : World) => ∃ (n73 : Int), e71 = Ending.returned (Value.int IntKind.i64
  n73) ∧ ∃ (R74 : List Own), ∃ (Φ75 : PW), Stable Φ75 ∧ Ctx W w72 (R74 ++ R70) Φ75 ∧ ∀ (w76 : World) (R77 : List Own), Ctx W w76 (R74 ++ R77) Φ75 → Calls Tryd.prog F.journal_Open
  #[Value.pointer p15, Value.int IntKind.i64 7] w76 fun (e78 : Ending) (w79 : World) => ∃ (p80 : Option Addr), ∃ (n81 : Int), e78 = Ending.returned (Value.tuple #[Value.pointer p80, Value.int
  IntKind.i64 n81]) ∧ ∃ (R82 : List Own), ∃ (Φ83 : PW), Stable Φ83 ∧ Ctx W w79 (R82 ++ R77) Φ83 ∧ ∀ (w84 : World) (R85 : List Own), Ctx W w84 (R82 ++ R85) Φ83 → Br (p80.isNone != decide (n81
  ≠ 0) || p80.isNone && decide (n81 ≠ 2)) (∀ (w86 : World) (R87 : List Own), Ctx W w86 (R82 ++ R87) Φ83 → J (Value.bool false) w86) (∀ (w88 : World) (R89 : List Own), Ctx W w88 (R82 ++ R89)
  Φ83 → Calls Tryd.prog F.wire_Open #[Value.string s43] w88 fun (e90 : Ending) (w91 : World) => ∃ (p92 : Option Addr), e90 = Ending.returned (Value.pointer p92) ∧ ∃ (R93 : List Own), ∃ (Φ94 :
  PW), Stable Φ94 ∧ Ctx W w91 (R93 ++ R89) Φ94 ∧ Br p92.isNone (∀ (w95 : World) (R96 : List Own), Ctx W w95 (R93 ++ R96) Φ94 → J (Value.bool false) w95) (∀ (w97 : World) (R98 : List Own), Ctx
  W w97 (R93 ++ R98) Φ94 → Calls Tryd.prog F.wire_Reader_Num #[Value.pointer p92] w97 fun (e99 : Ending) (w100 : World) => ∃ (n101 : Int), e99 = Ending.returned (Value.int IntKind.i64 n101) ∧
  ∃ (R102 : List Own), ∃ (Φ103 : PW), Stable Φ103 ∧ Ctx W w100 (R102 ++ R98) Φ103 ∧ ∀ (w104 : World) (R105 : List Own), Ctx W w104 (R102 ++ R105) Φ103 → Calls Tryd.prog F.wire_Reader_Num
  #[Value.pointer p92] w104 fun (e106 : Ending) (w107 : World) => ∃ (n108 : Int), e106 = Ending.returned (Value.int IntKind.i64 n108) ∧ ∃ (R109 : List Own), ∃ (Φ110 : PW), Stable Φ110 ∧ Ctx W
  w107 (R109 ++ R105) Φ110 ∧ ∀ (w111 : World) (R112 : List Own), Ctx W w111 (R109 ++ R112) Φ110 → Calls Tryd.prog F.wire_Reader_Done #[Value.pointer p92] w111 fun (e113 : Ending) (w114 :
  World) => ∃ (c115 : Bool), e113 = Ending.returned (Value.bool c115) ∧ ∃ (R116 : List Own), ∃ (Φ117 : PW), Stable Φ117 ∧ Ctx W w114 (R116 ++ R112) Φ117 ∧ Br c115 (exI fun (I118 : Option Addr
  → Nat → Nat → List Own → PW → Prop) => (∃ (R119 : List Own), ∃ (Φ120 : PW), Stable Φ120 ∧ (∀ (w121 : World) (R122 : List Own), Ctx W w121 (R116 ++ R122) Φ117 → Ctx W w121 (R119 ++ R122)
  Φ120) ∧ I118 none 0 0 R119 Φ120) ∧ ∀ (p123 : Option Addr) (k124 k125 : Nat) (R126 : List Own) (I127 : List Nat → World → Prop), Stable I127 → I118 p123 k124 k125 R126 I127 → exI fun (I128 :
  Bool → Option Addr → Nat → Nat → List Own → PW → Prop) => Br (decide (n101 ≤ (↑log.size : Int))) ((0 ≤ min n101 (↑log.size : Int) ∧ min n101 (↑log.size : Int) ≤ (↑log.size : Int)) ∧ ∀ (w129
  : World) (R130 : List Own), Ctx W w129 (R126 ++ R130) I127 → Calls Tryd.prog F.wire_Open #[Value.string (log.extract 0 (min n101 (↑log.size : Int)).toNat)] w129 fun (e131 : Ending) (w132 :
  World) => ∃ (p133 : Option Addr), e131 = Ending.returned (Value.pointer p133) ∧ ∃ (R134 : List Own), ∃ (Φ135 : PW), Stable Φ135 ∧ Ctx W w132 (R134 ++ R130) Φ135 ∧ Br p133.isNone (∀ (w136 :
  World) (R137 : List Own), Ctx W w136 (R134 ++ R137) Φ135 → J (Value.bool false) w136) (exI fun (I138 : Option Addr → Nat → Nat → Int → List Own → PW → Nat → Prop) => (∃ (R139 : List Own), ∃
  (Φ140 : PW), ∃ (k141 : Nat), Stable Φ140 ∧ (∀ (w142 : World) (R143 : List Own), Ctx W w142 (R134 ++ R143) Φ135 → Ctx W w142 (R139 ++ R143) Φ140) ∧ I138 p123 k124 k125 0 R139 Φ140 k141) ∧ ∀
  (p144 : Option Addr) (k145 k146 : Nat) (n147 : Int) (R148 : List Own) (I149 : List Nat → World → Prop) (k150 : Nat), Stable I149 → I138 p144 k145 k146 n147 R148 I149 k150 → Br (decide (n147
  < n108)) (∀ (w151 : World) (R152 : List Own), Ctx W w151 (R148 ++ R152) I149 → Calls Tryd.prog F.wire_Reader_Left #[Value.pointer p133] w151 fun (e153 : Ending) (w154 : World) => ∃ (n155 :
  Int), e153 = Ending.returned (Value.int IntKind.i64 n155) ∧ ∃ (R156 : List Own), ∃ (Φ157 : PW), Stable Φ157 ∧ Ctx W w154 (R156 ++ R152) Φ157 ∧ Br (decide (0 < n155)) (∀ (w158 : World) (R159
  : List Own), Ctx W w158 (R156 ++ R159) Φ157 → Calls Tryd.prog F.wire_Reader_Text #[Value.pointer p133] w158 fun (e160 : Ending) (w161 : World) => ∃ (s162 : ByteArray), e160 =
  Ending.returned (Value.string s162) ∧ ∃ (R163 : List Own), ∃ (Φ164 : PW), Stable Φ164 ∧ Ctx W w161 (R163 ++ R159) Φ164 ∧ ∀ (k165 : Nat) (w166 : World) (R167 : List Own), Ctx W w166 (Own.blk
  k165 [Value.string s162] 9 :: R163 ++ R167) Φ164 → ∃ (p168 : Option Addr), ∃ (k169 : Nat), ∃ (k170 : Nat), ∃ (w171 : World), Sem.run Tryd.prog (builtin Builtin.append #[36, 36] 36 #[false,
  false] #[Value.slice p144 k145 k146, Value.slice (some (Addr.mk k165 0 none)) 1 1]) w166 = Result.ok (Next.value (Value.slice p168 k169 k170)) w171 ∧ ∃ (R172 : List Own), ∃ (Φ173 : PW),
  Stable Φ173 ∧ Ctx W w171 (R172 ++ R167) Φ173 ∧ I64 (n147 + 1) ∧ ∃ (R174 : List Own), ∃ (Φ175 : PW), ∃ (k176 : Nat), Stable Φ175 ∧ (∀ (w177 : World) (R178 : List Own), Ctx W w177 (R172 ++
  R178) Φ173 → Ctx W w177 (R174 ++ R178) Φ175) ∧ I138 p168 k169 k170 (n147 + 1) R174 Φ175 k176 ∧ k176 < k150) (∀ (w179 : World) (R180 : List Own), Ctx W w179 (R156 ++ R180) Φ157 → Calls
  Tryd.prog F.wire_Reader_Done #[Value.pointer p133] w179 fun (e181 : Ending) (w182 : World) => ∃ (c183 : Bool), e181 = Ending.returned (Value.bool c183) ∧ ∃ (R184 : List Own), ∃ (Φ185 : PW),
  Stable Φ185 ∧ Ctx W w182 (R184 ++ R180) Φ185 ∧ Br c183 (∃ (R186 : List Own), ∃ (Φ187 : PW), Stable Φ187 ∧ (∀ (w188 : World) (R189 : List Own), Ctx W w188 (R184 ++ R189) Φ185 → Ctx W w188
  (R186 ++ R189) Φ187) ∧ I128 (decide ((↑k145 : Int) = n108)) p144 k145 k146 R186 Φ187) (∃ (R190 : List Own), ∃ (Φ191 : PW), Stable Φ191 ∧ (∀ (w192 : World) (R193 : List Own), Ctx W w192
  (R184 ++ R193) Φ185 → Ctx W w192 (R190 ++ R193) Φ191) ∧ I128 false p144 k145 k146 R190 Φ191))) (∀ (w194 : World) (R195 : List Own), Ctx W w194 (R148 ++ R195) I149 → Calls Tryd.prog
  F.wire_Reader_Done #[Value.pointer p133] w194 fun (e196 : Ending) (w197 : World) => ∃ (c198 : Bool), e196 = Ending.returned (Value.bool c198) ∧ ∃ (R199 : List Own), ∃ (Φ200 : PW), Stable
  Φ200 ∧ Ctx W w197 (R199 ++ R195) Φ200 ∧ Br c198 (∃ (R201 : List Own), ∃ (Φ202 : PW), Stable Φ202 ∧ (∀ (w203 : World) (R204 : List Own), Ctx W w203 (R199 ++ R204) Φ200 → Ctx W w203 (R201 ++
  R204) Φ202) ∧ I128 (decide ((↑k145 : Int) = n108)) p144 k145 k146 R201 Φ202) (∃ (R205 : List Own), ∃ (Φ206 : PW), Stable Φ206 ∧ (∀ (w207 : World) (R208 : List Own), Ctx W w207 (R199 ++
  R208) Φ200 → Ctx W w207 (R205 ++ R208) Φ206) ∧ I128 false p144 k145 k146 R205 Φ206)))) (∃ (R209 : List Own), ∃ (Φ210 : PW), Stable Φ210 ∧ (∀ (w211 : World) (R212 : List Own), Ctx W w211
  (R126 ++ R212) I127 → Ctx W w211 (R209 ++ R212) Φ210) ∧ I128 (decide (n101 ≤ (↑log.size : Int))) p123 k124 k125 R209 Φ210) ∧ ∀ (c213 : Bool) (p214 : Option Addr) (k215 k216 : Nat) (R217 :
  List Own) (I218 : List Nat → World → Prop), Stable I218 → I128 c213 p214 k215 k216 R217 I218 → Br p80.isNone (∀ (w219 : World) (R220 : List Own), Ctx W w219 (R217 ++ R220) I218 → ∀ (w221 :
  World) (R222 : List Own), Ctx W w221 (R217 ++ R222) I218 → J (Value.bool (c4 && !c213)) w221) (Br c4 (Br c213 (∀ (w223 : World) (R224 : List Own), Ctx W w223 (R217 ++ R224) I218 → Calls
  Tryd.prog F.journal_Journal_All #[Value.pointer p80] w223 fun (e225 : Ending) (w226 : World) => ∃ (p227 : Option Addr), ∃ (k228 : Nat), ∃ (k229 : Nat), e225 = Ending.returned (Value.slice
  p227 k228 k229) ∧ ∃ (R230 : List Own), ∃ (Φ231 : PW), Stable Φ231 ∧ Ctx W w226 (R230 ++ R224) Φ231 ∧ ∀ (w232 : World) (R233 : List Own), Ctx W w232 (R230 ++ R233) Φ231 → Calls Tryd.prog
  F.errataref01_SameTexts #[Value.slice p227 k228 k229, Value.slice p214 k215 k216] w232 fun (e234 : Ending) (w235 : World) => ∃ (c236 : Bool), e234 = Ending.returned (Value.bool c236) ∧ ∃
  (R237 : List Own), ∃ (Φ238 : PW), Stable Φ238 ∧ Ctx W w235 (R237 ++ R233) Φ238 ∧ ∀ (w239 : World) (R240 : List Own), Ctx W w239 (R237 ++ R240) Φ238 → J (Value.bool c236) w239) (∀ (w241 :
  World) (R242 : List Own), Ctx W w241 (R217 ++ R242) I218 → J (Value.bool false) w241)) (∀ (w243 : World) (R244 : List Own), Ctx W w243 (R217 ++ R244) I218 → J (Value.bool false) w243)))
  (exI fun (I245 : Option Addr → Nat → Nat → List Own → PW → Prop) => (∃ (R246 : List Own), ∃ (Φ247 : PW), Stable Φ247 ∧ (∀ (w248 : World) (R249 : List Own), Ctx W w248 (R116 ++ R249) Φ117 →
  Ctx W w248 (R246 ++ R249) Φ247) ∧ I245 none 0 0 R246 Φ247) ∧ ∀ (p250 : Option Addr) (k251 k252 : Nat) (R253 : List Own) (I254 : List Nat → World → Prop), Stable I254 → I245 p250 k251 k252
  R253 I254 → exI fun (I255 : Bool → Option Addr → Nat → Nat → List Own → PW → Prop) => (∃ (R256 : List Own), ∃ (Φ257 : PW), Stable Φ257 ∧ (∀ (w258 : World) (R259 : List Own), Ctx W w258
  (R253 ++ R259) I254 → Ctx W w258 (R256 ++ R259) Φ257) ∧ I255 false p250 k251 k252 R256 Φ257) ∧ ∀ (c260 : Bool) (p261 : Option Addr) (k262 k263 : Nat) (R264 : List Own) (I265 : List Nat →
  World → Prop), Stable I265 → I255 c260 p261 k262 k263 R264 I265 → Br p80.isNone (∀ (w266 : World) (R267 : List Own), Ctx W w266 (R264 ++ R267) I265 → ∀ (w268 : World) (R269 : List Own), Ctx
  W w268 (R264 ++ R269) I265 → J (Value.bool (c4 && !c260)) w268) (Br c4 (Br c260 (∀ (w270 : World) (R271 : List Own), Ctx W w270 (R264 ++ R271) I265 → Calls Tryd.prog F.journal_Journal_All
  #[Value.pointer p80] w270 fun (e272 : Ending) (w273 : World) => ∃ (p274 : Option Addr), ∃ (k275 : Nat), ∃ (k276 : Nat), e272 = Ending.returned (Value.slice p274 k275 k276) ∧ ∃ (R277 : List
  Own), ∃ (Φ278 : PW), Stable Φ278 ∧ Ctx W w273 (R277 ++ R271) Φ278 ∧ ∀ (w279 : World) (R280 : List Own), Ctx W w279 (R277 ++ R280) Φ278 → Calls Tryd.prog F.errataref01_SameTexts
  #[Value.slice p274 k275 k276, Value.slice p261 k262 k263] w279 fun (e281 : Ending) (w282 : World) => ∃ (c283 : Bool), e281 = Ending.returned (Value.bool c283) ∧ ∃ (R284 : List Own), ∃ (Φ285
  : PW), Stable Φ285 ∧ Ctx W w282 (R284 ++ R280) Φ285 ∧ ∀ (w286 : World) (R287 : List Own), Ctx W w286 (R284 ++ R287) Φ285 → J (Value.bool c283) w286) (∀ (w288 : World) (R289 : List Own), Ctx
  W w288 (R264 ++ R289) I265 → J (Value.bool false) w288)) (∀ (w290 : World) (R291 : List Own), Ctx W w290 (R264 ++ R291) I265 → J (Value.bool false) w290)))))))

theorem Merratalaw06_JournalReads_run (log : ByteArray) (bytes : Int) (n : Int) (raw : ByteArray) {W w : World} {R : List Own} {Φ : PW} [Stable Φ] {J : Value → World → Prop} (c : Ctx W w R Φ) (h : Merratalaw06_JournalReads log bytes n raw W R Φ J) : Calls Tryd.prog F.erratalaw06_JournalReads #[.string log, .int .i64 bytes, .int .i64 n, .string raw] w fun e w' => ∃ v, e = .returned v ∧ J v w' :=
  vcFS_sound (H := { keep := some [0, 1, 2, 3, 8, 9, 10, 11, 12, 13, 14, 15, 16, 17, 18, 19, 20, 33, 37, 40, 80, 84, 97, 106, 114, 131], split := [21, 28, 31, 34], loops := [(28, [(18, .one (.slice)), (20, .one (.int .i64))], [])], cuts := [(10, [(11, .one (.str))], []), (23, [(18, .one (.slice))], []), (32, [(17, .one (.bool)), (18, .one (.slice))], [])] }) (by rw [show vcFS Tryd.prog W { keep := some [0, 1, 2, 3, 8, 9, 10, 11, 12, 13, 14, 15, 16, 17, 18, 19, 20, 33, 37, 40, 80, 84, 97, 106, 114, 131], split := [21, 28, 31, 34], loops := [(28, [(18, .one (.slice)), (20, .one (.int .i64))], [])], cuts := [(10, [(11, .one (.str))], []), (23, [(18, .one (.slice))], []), (32, [(17, .one (.bool)), (18, .one (.slice))], [])] } F.erratalaw06_JournalReads #[.string log, .int .i64 bytes, .int .i64 n, .string raw] R Φ J = Merratalaw06_JournalReads log bytes n raw W R Φ J by kernel_rfl]; exact h) c

end Go.Proofs.YtfccagphnfceiaaDoor
end

/-
  The law of reading: walked.
-/
section
set_option linter.unusedVariables false
set_option linter.unusedSimpArgs false
namespace Go.Proofs.YtfccagphnfceiaaDoor
open Go.Vc

section
variable {W w : World} {S R G : List Own} {Φ : PW}
theorem blk_string [Stable Φ] {g c : Nat} {l : Bs} (cx : Ctx W w (.blk g (bB l) 5 :: S) Φ) : Sem.run Tryd.prog (convert 29 9 (.slice (some ⟨g, 0, none⟩) l.length c)) w = .ok (.string (bs l)) w := by
  have hb : Lib.Bytes w g 0 (bs l) := fun i hi => by
    have hi' : i < l.length := by rw [bs_size] at hi; exact hi
    have := cx.get 0 rfl (b := g) (i := i) (v := .int .u8 (l[i].toNat : Int)) (by rw [List.getElem?_map, List.getElem?_eq_getElem hi']; rfl)
    rw [Nat.zero_add]
    exact this
  have hc := Lib.run_convert_whole (P := Tryd.prog) w 29 5 9 Tryd.underlying29 Tryd.underlying5 Tryd.underlying9 g 0 _ hb c
  rw [bs_size] at hc
  exact hc
theorem hdr_small {n : Nat} (h : n ≤ 300) : bB (hdrL 1 n) = [.int .u8 1, .int .u8 (IntKind.u8.wrap (n : Int)), .int .u8 (IntKind.u8.wrap ((n / 256 : Nat) : Int)), .int .u8 0, .int .u8 0] := by
  have h1 : n / 65536 = 0 := by omega
  have h2 : n / 16777216 = 0 := by omega
  unfold hdrL bB
  rw [h1, h2, wrap_u8, wrap_u8]
  rfl
/-- the file of a cell that was written by hand -/
theorem cel_hand {v : Bs} (h0 : v ≠ []) (h : v.length ≤ 300) : CelAt (putL (putL [] 64 v) 0 (hdrL 1 v.length)) 1 v := by
  have hh : hdrL 1 v.length ≠ [] := by unfold hdrL; simp
  refine .inr ⟨.inl rfl, by omega, fun i hi => ?_, fun i hi => ?_⟩
  · have := putL_mid (s := putL [] 64 v) (a := 0) (i := i) hh (Nat.zero_le _) (by rw [hdr_len]; omega)
    rw [this, Nat.sub_zero]
  · have ho : offS 1 = 64 := rfl
    rw [ho, putL_high hh (by rw [hdr_len]; omega), putL_mid h0 (by omega) (by omega), Nat.add_sub_cancel_left]
/-- what Open came to -/
def PackJ (q : DkP) (lg v : Bs) (p : Option Addr) (e : Int) (own : List Own) : Prop :=
  (p = none ∧ e = 2 ∧ readsR lg v = (none, 2)) ∨ (e = 0 ∧ ∃ u x d j, p = some ⟨x.jb, 0, none⟩ ∧ own = JoO x q j ++ dkL (DkP.mv q u) d ∧ SB x.p x.cap j.list x.o ∧ j.list.length ≤ 100000 ∧ (∀ y ∈ j.list, y.size ≤ maxLen) ∧ readsR lg v = (some j, 0))
theorem reads_or (lg v : Bs) : readsR lg v = (none, 2) ∨ ∃ j, readsR lg v = (some j, 0) ∧ (formL j.list).length ≤ lg.length := by
  unfold readsR
  split
  · rename_i h
    cases hr : readJ (lg.take (numsJ ⟨8, 1, v, false⟩).1.toNat) (numsJ ⟨8, 1, v, false⟩).2.1 with
    | none => exact .inl rfl
    | some l =>
      refine .inr ⟨_, rfl, ?_⟩
      have := (readJ_is hr).1
      show (formL l).length ≤ _
      rw [this, List.length_take]; omega
  · exact .inl rfl
theorem reads_fin {Ψ : PW} [Stable Ψ] (hΦ : ∀ M w, Ψ M w → Φ M w) {q : DkP} {lg v : Bs} {p : Option Addr} {n2 : Int} {own : List Own} (hp : PackJ q lg v p n2 own) {c : Bool} {l : List ByteArray} {pl : Option Addr} {cp : Nat} (hc1 : c = true → ∃ j, readsR lg v = (some j, 0) ∧ j.list = l) (hc2 : c = false → readsR lg v = (none, 2)) :
    Br p.isNone (∀ w G, Ctx W w ((.buf pl l.length cp (strC l) 9 1 :: (own ++ R)) ++ G) Ψ → ∀ w G, Ctx W w ((.buf pl l.length cp (strC l) 9 1 :: (own ++ R)) ++ G) Ψ → (Value.bool (true && !c) = .bool true ∧ Ctx W w R Φ))
      (Br true (Br c (∀ w G, Ctx W w ((.buf pl l.length cp (strC l) 9 1 :: (own ++ R)) ++ G) Ψ → Calls Tryd.prog F.journal_Journal_All #[.pointer p] w fun e w' => ∃ p2 k c2, e = .returned (.slice p2 k c2) ∧ ∃ R' Φ', Stable Φ' ∧ Ctx W w' (R' ++ G) Φ' ∧ ∀ w G, Ctx W w (R' ++ G) Φ' → Calls Tryd.prog F.errataref01_SameTexts #[.slice p2 k c2, .slice pl l.length cp] w fun e w' => ∃ c3, e = .returned (.bool c3) ∧ ∃ R3 Φ3, Stable Φ3 ∧ Ctx W w' (R3 ++ G) Φ3 ∧ ∀ w G, Ctx W w (R3 ++ G) Φ3 → (Value.bool c3 = .bool true ∧ Ctx W w R Φ))
        (∀ w G, Ctx W w ((.buf pl l.length cp (strC l) 9 1 :: (own ++ R)) ++ G) Ψ → (Value.bool false = .bool true ∧ Ctx W w R Φ))) (∀ w G, Ctx W w ((.buf pl l.length cp (strC l) 9 1 :: (own ++ R)) ++ G) Ψ → (Value.bool false = .bool true ∧ Ctx W w R Φ))) := by
  have hend : ∀ {w : World} {G : List Own} {Θ : PW}, Stable Θ → (∀ M w, Θ M w → Φ M w) → Ctx W w ((own ++ R) ++ G) Θ → Ctx W w R Φ := fun {w G Θ} st h cx => by
    have := st
    exact (Ctx.right (S := own) (Ctx.left cx)).weak h
  rcases hp with ⟨rfl, _, hr⟩ | ⟨_, u, x, d, j, rfl, rfl, hsb, hjl, hjs, hr⟩
  · have hc : c = false := by
      cases c with
      | false => rfl
      | true =>
        obtain ⟨j, h, _⟩ := hc1 rfl
        rw [h] at hr; cases hr
    subst hc
    exact Br.intro (fun _ => fun w G _ w G cx => ⟨rfl, hend inferInstance hΦ cx.drop1⟩) (fun h => by cases h)
  · have hc : c = true := by
      cases c with
      | true => rfl
      | false => rw [hc2 rfl] at hr; cases hr
    subst hc
    obtain ⟨j', h1, h2⟩ := hc1 rfl
    rw [hr] at h1
    cases h1
    subst h2
    refine Br.intro (fun h => by cases h) (fun _ => Br.intro (fun _ => Br.intro (fun _ => fun w G cx => ?_) (fun h => by cases h)) (fun h => by cases h))
    have ea : ((JoO x q j ++ dkL (q.mv u) d) ++ R) ++ G = JoO x q j ++ ((dkL (q.mv u) d ++ R) ++ G) := by rw [List.append_assoc (JoO x q j), List.append_assoc (JoO x q j)]
    obtain ⟨c7, s7, _⟩ := Ctx.freeze (S := ((JoO x q j ++ dkL (q.mv u) d) ++ R) ++ G) (cs := strC j.list) cx (elems_strJ hjs)
    have c8 := c7.add (Ψ := fun M w => Sl M w pl j.list) s7
    refine All_use (Φ := fun M w => Ψ M w ∧ Sl M w pl j.list) (q := q) (S := (dkL (q.mv u) d ++ R) ++ G) hsb (by omega) (c8.re ea) fun g1 w cx => ?_
    have c9 := froz hjs cx
    refine ⟨_, _, _, rfl, (JoO x q j ++ dkL (q.mv u) d) ++ R, _, inferInstance, c9.re ea.symm, fun w G cx => ?_⟩
    refine (Same_in (fun M w h => h.2) (fun M w h => h.1.2) (by omega)).use cx fun w cx => ?_
    rw [decide_eq_true (rfl : j.list = j.list)]
    exact ⟨true, rfl, (JoO x q j ++ dkL (q.mv u) d) ++ R, _, inferInstance, cx, fun w G cx => ⟨rfl, hend inferInstance (fun M w h => hΦ M w h.1.1) cx⟩⟩
set_option maxHeartbeats 1000000 in
theorem Reads_in [Stable Φ] (hi0 : JI Φ) {lg rw : Bs} {bytes n : Int} (hb : I64 bytes) (hn : I64 n) : GivesIn Φ Tryd.prog F.erratalaw06_JournalReads #[.string (bs lg), .int .i64 bytes, .int .i64 n, .string (bs rw)] (.bool true) := by
  refine gives_in (Merratalaw06_JournalReads_run (bs lg) bytes n (bs rw)) fun W R => fun w G cx => (small_in hi0).use cx fun w cx => ⟨true, rfl, R, Φ, inferInstance, cx, fun w G cx => Br.intro (fun h => fun w G cx => ⟨rfl, cx.left⟩) (fun h => fun w G cx => DNew_use cx fun q w hq cx => ?_)⟩
  have hbd : lg.length ≤ 300 ∧ rw.length ≤ 300 ∧ n ≤ 400 := by
    rw [bs_size, bs_size] at h
    simp only [Bool.or_eq_false_iff, decide_eq_false_iff_not] at h
    omega
  have hi : JI (fun M w => Φ M w ∧ dkF q dsNew M w) := hi0.weak fun _ _ h => h.1
  have hkk : DkK (fun M w => Φ M w ∧ dkF q dsNew M w) q dsNew := ⟨Nat.zero_le _, fun M w h => h.2⟩
  refine ⟨_, rfl, dkL q dsNew ++ R, fun M w => Φ M w ∧ dkF q dsNew M w, inferInstance, cx.re (List.append_assoc _ _ _).symm, Br.intro (fun h => by cases h) (fun _ => ?_)⟩
  obtain ⟨Ψ, hΨ⟩ : ∃ Ψ : PW, (fun M w => Φ M w ∧ dkF q dsNew M w) = Ψ := ⟨_, rfl⟩
  have stΨ : Stable Ψ := by rw [← hΨ]; infer_instance
  have hΦ : ∀ M w, Ψ M w → Φ M w := by rw [← hΨ]; exact fun _ _ h => h.1
  rw [hΨ] at hi hkk ⊢
  clear hΨ cx
  -- the value in the cell
  refine exI_mk (fun s R' Φ' => ∃ v : Bs, s = bs v ∧ v ≠ [] ∧ v.length ≤ 300 ∧ R' = dkL q dsNew ++ R ∧ Φ' = Ψ) ⟨Br.intro (fun h0 => fun w G cx => ?_) (fun h0 => ⟨_, Ψ, inferInstance, fun w G cx => cx, rw, rfl, fun e => of_decide_eq_false h0 (by rw [e]; rfl), hbd.2.1, rfl, rfl⟩), ?_⟩
  · have s1 := intB_size hb
    have s2 := intB_size hn
    refine (Int_in (Φ := Ψ) (.inl ⟨hi.tab, hb⟩)).use cx fun w cx => ⟨_, rfl, dkL q dsNew ++ R, Ψ, inferInstance, cx, fun w G cx => (Int_in (Φ := Ψ) (.inl ⟨hi.tab, hn⟩)).use cx fun w cx => ⟨_, rfl, dkL q dsNew ++ R, Ψ, inferInstance, cx, by show (intB bytes).size + (intB n).size ≤ _; omega, _, Ψ, inferInstance, fun w G cx => cx, (intB bytes).data.toList ++ (intB n).data.toList, ?_, fun e => ?_, ?_, rfl, rfl⟩⟩
    · apply ByteArray.ext
      apply Array.toList_inj.1
      simp [bs]
    · have := congrArg List.length e
      rw [List.length_append, list_size, list_size, List.length_nil] at this
      omega
    · rw [List.length_append, list_size, list_size]; omega
  rintro s R1 Ψ st ⟨v, rfl, hv0, hv, rfl, rfl⟩
  -- what is written
  obtain ⟨d1, e1, k1, f1⟩ := write_h (F := 7) (a := 0) (s := lg) dsNew_h (by decide) (by decide) (by omega)
  obtain ⟨d2, e2, k2, f2⟩ := write_h (F := 8) (a := 64) (s := v) k1 (by decide) (by decide) (by omega)
  obtain ⟨d3, e3, k3, f3⟩ := write_h (F := 8) (a := 0) (s := hdrL 1 v.length) k2 (by decide) (by decide) (by rw [hdr_len]; omega)
  have g7 : (d3.files 7).now = lg := by
    rw [f3, if_neg (by decide), f2, if_neg (by decide), f1, if_pos rfl]
    show putL [] 0 lg = lg
    unfold putL
    split
    · rename_i h; rw [h]
    · simp
  have g8 : CelAt (d3.files 8).now 1 v := by
    rw [f3, if_pos rfl, f2, if_pos rfl, f1, if_neg (by decide)]
    exact cel_hand hv0 hv
  obtain ⟨d4, e4, k4⟩ := open_reads k3 g7 g8
  have kp1 := write_keep dsNew 7 0 lg
  have kp2 := write_keep d1 8 64 v
  have kp3 := write_keep d2 8 0 (hdrL 1 v.length)
  rw [e1] at kp1
  rw [e2] at kp2
  rw [e3] at kp3
  intro w G cx
  refine Write_use (S := R ++ G) hq hkk (by omega) (cx.re (List.append_assoc _ _ _)) fun u1 w hq1 cx => ?_
  rw [e1] at hq1 cx ⊢
  refine ⟨_, rfl, dkL (q.mv u1) d1 ++ R, Ψ, inferInstance, cx.re (List.append_assoc _ _ _).symm, fun w G cx => ?_⟩
  refine Write_use (q := q.mv u1) (S := R ++ G) hq1 (hkk.of kp1 u1) (by omega) (cx.re (List.append_assoc _ _ _)) fun u2 w hq2 cx => ?_
  rw [e2] at hq2 cx ⊢
  refine ⟨_, rfl, dkL (q.mv u2) d2 ++ R, Ψ, inferInstance, cx.re (List.append_assoc _ _ _).symm, ?_⟩
  rw [bs_size]
  refine ⟨_, fun w => shr8 _ w, fun g w G cx => ?_⟩
  rw [← hdr_small hv] at cx
  refine ⟨_, w, blk_string (l := hdrL 1 v.length) (S := (dkL (q.mv u2) d2 ++ R) ++ G) cx, dkL (q.mv u2) d2 ++ R, Ψ, inferInstance, cx.drop1, fun w G cx => ?_⟩
  refine Write_use (q := q.mv u2) (S := R ++ G) hq2 (hkk.of (kp2.trans kp1) u2) (by rw [hdr_len]; omega) (cx.re (List.append_assoc _ _ _)) fun u3 w hq3 cx => ?_
  rw [e3] at hq3 cx ⊢
  refine ⟨_, rfl, dkL (q.mv u3) d3 ++ R, Ψ, inferInstance, cx.re (List.append_assoc _ _ _).symm, fun w G cx => ?_⟩
  have hro := reads_or lg v
  refine (JOpen_use (q := ((q.mv u1).mv u2).mv u3) (S := R ++ G) (base := 7) hq3 (hkk.of (kp3.trans (kp2.trans kp1)) u3) hi.off hi.num (cx.re (List.append_assoc _ _ _)) (K := fun e w' => ∃ p n own, e = .returned (.tuple #[.pointer p, .int .i64 n]) ∧ PackJ q lg v p n own ∧ Ctx W w' ((own ++ R) ++ G) Ψ) (fun u d' e w hop hq4 hkeep cx => ?_) (fun u x d' j w hop hsb hq4 hkeep cx => ?_)).mono fun e w ⟨p, n2, own, he, hp, cx⟩ => ?_
  · rw [e4] at hop
    have h1 : readsR lg v = (none, e) := (Prod.mk.inj hop).2
    have h2 : e = 2 := by
      rcases hro with h | ⟨j, h, _⟩
      · rw [h] at h1; exact (Prod.mk.inj h1).2.symm
      · rw [h] at h1; cases h1
    rw [h2] at h1 ⊢
    exact ⟨none, 2, dkL (q.mv u) d', rfl, .inl ⟨rfl, rfl, h1⟩, cx.re (List.append_assoc _ _ _).symm⟩
  · rw [e4] at hop
    have h1 : readsR lg v = (some j, 0) := (Prod.mk.inj hop).2
    have h2 : (formL j.list).length ≤ 300 := by
      rcases hro with h | ⟨j', h, h3⟩
      · rw [h] at h1; cases h1
      · rw [h] at h1; cases h1; omega
    have h3 := formL_len (l := j.list) fun x hx => Nat.le_trans (formL_size hx) (by omega)
    refine ⟨some ⟨x.jb, 0, none⟩, 0, JoO x q j ++ dkL (q.mv u) d', rfl, .inr ⟨rfl, u, x, d', j, rfl, rfl, hsb, by omega, fun y hy => Nat.le_trans (formL_size hy) (by unfold maxLen; omega), h1⟩, ?_⟩
    have cx : Ctx W w (JoO x q j ++ (dkL (q.mv u) d' ++ (R ++ G))) Ψ := cx
    rw [← List.append_assoc (dkL _ _), ← List.append_assoc, ← List.append_assoc] at cx
    exact cx
  subst he
  clear hq1 hq2 hq3 e1 e2 e3 e4 f1 f2 f3 k1 k2 k3 k4 kp1 kp2 kp3
  refine ⟨p, n2, rfl, own ++ R, Ψ, inferInstance, cx, fun w G cx => Br.intro (fun hbad => ?_) (fun _ => fun w G cx => ?_)⟩
  · exfalso
    rcases hp with ⟨rfl, rfl, _⟩ | ⟨rfl, _, _, _, _, rfl, _⟩
    · exact absurd hbad (by decide)
    · exact absurd hbad (by simp)
  -- the law reads the cell's value
  have hcn : numsJ ⟨8, 1, v, false⟩ = ((rdNat (v, false)).1, (rdNat (rdNat (v, false)).2).1, rdDone (rdNat (rdNat (v, false)).2).2) := by unfold numsJ; rw [if_neg (show ¬ (1 = 0) by decide)]
  have hnn := nums_nonneg v
  have hlen : (rdNat (v, false)).2.1.length ≤ v.length := stepN_len 59 0 (v, false)
  have hyes : ∀ l, rdDone (rdNat (rdNat (v, false)).2).2 = true → (rdNat (v, false)).1 ≤ (lg.length : Int) → readJ (lg.take (rdNat (v, false)).1.toNat) (rdNat (rdNat (v, false)).2).1 = some l → ∃ j, readsR lg v = (some j, 0) ∧ j.list = l := fun l h1 h2 h3 => by
    unfold readsR
    rw [hcn]
    simp only
    rw [if_pos ⟨h1, h2⟩, h3]
    exact ⟨_, rfl, rfl⟩
  have hno : (rdDone (rdNat (rdNat (v, false)).2).2 = true → (rdNat (v, false)).1 ≤ (lg.length : Int) → readJ (lg.take (rdNat (v, false)).1.toNat) (rdNat (rdNat (v, false)).2).1 = none) → readsR lg v = (none, 2) := fun h => by
    unfold readsR
    rw [hcn]
    simp only
    by_cases hc : rdDone (rdNat (rdNat (v, false)).2).2 = true ∧ (rdNat (v, false)).1 ≤ (lg.length : Int)
    · rw [if_pos hc, h hc.1 hc.2]
    · rw [if_neg hc]
  rw [hcn] at hnn
  refine Open_use v cx fun b w cx => ⟨_, rfl, rd b (v, false) :: (own ++ R), Ψ, inferInstance, cx, Br.intro (fun h => by cases h) (fun _ => fun w G cx => RNum_to (S := own ++ R) hi.num (by show v.length ≤ _; omega) cx (fun w G cx => RNum_to (S := own ++ R) hi.num (by omega) cx (fun w G cx => Done_to (S := own ++ R) cx ?_)))⟩
  generalize (rdNat (v, false)).1 = nb at hnn hyes hno
  generalize (rdNat (rdNat (v, false)).2).1 = nm at hnn hyes hno
  generalize rdDone (rdNat (rdNat (v, false)).2).2 = ok at hnn hyes hno

  refine Br.intro (fun hok => ?_) (fun hok => ?_)
  · subst hok
    refine exI_mk (fun p k c R' Φ' => p = none ∧ k = 0 ∧ c = 0 ∧ R' = own ++ R ∧ Φ' = Ψ) ⟨⟨_, Ψ, inferInstance, fun w G cx => cx.drop1, rfl, rfl, rfl, rfl, rfl⟩, ?_⟩
    rintro p0 k0 c0 R1 Ψ st ⟨rfl, rfl, rfl, rfl, rfl⟩
    refine exI_mk (fun c p k cp R' Φ' => ∃ l : List ByteArray, k = l.length ∧ R' = .buf p l.length cp (strC l) 9 1 :: (own ++ R) ∧ Φ' = Ψ ∧ (c = true → ∃ j, readsR lg v = (some j, 0) ∧ j.list = l) ∧ (c = false → readsR lg v = (none, 2))) ⟨Br.intro (fun hle => ?_) (fun hgt => ?_), ?_⟩
    · have hle : nb ≤ (lg.length : Int) := by have := of_decide_eq_true hle; rw [bs_size] at this; exact this
      obtain ⟨L, hL⟩ : ∃ L, lg.take nb.toNat = L := ⟨_, rfl⟩
      have hLl : L.length ≤ 300 := by rw [← hL, List.length_take]; omega
      have hyes := fun l => hyes l rfl hle
      rw [hL] at hyes hno
      have hsame := reads_same L (n := nm) hnn.2
      have hfin : ∀ (st : RdS) (acc : List ByteArray), loopW (L.length + 1) (L, false) nm [] = (acc, st) → (rdDone st = true → (decide ((acc.length : Int) = nm) = true → ∃ j, readsR lg v = (some j, 0) ∧ j.list = acc) ∧ (decide ((acc.length : Int) = nm) = false → readsR lg v = (none, 2))) ∧ (rdDone st = false → readsR lg v = (none, 2)) := fun st acc hlp => by
        rw [hlp] at hsame
        simp only at hsame
        refine ⟨fun hd => ⟨fun h => hyes acc (by rw [hsame, if_pos ⟨hd, of_decide_eq_true h⟩]), fun h => hno fun _ _ => by rw [hsame, if_neg fun h2 => of_decide_eq_false h h2.2]⟩, fun hd => hno fun _ _ => by rw [hsame, if_neg fun h2 => by rw [hd] at h2; cases h2.1]⟩
      refine ⟨⟨by omega, by omega⟩, fun w G cx => ?_⟩
      have ex : (bs lg).extract 0 (min nb ((bs lg).size : Int)).toNat = bs L := by
        rw [bs_extract, bs_size, List.drop_zero, Nat.sub_zero, ← hL, show (min nb (lg.length : Int)).toNat = nb.toNat by omega]
      rw [ex]
      refine Open_use L cx fun b2 w cx => ⟨_, rfl, rd b2 (L, false) :: (own ++ R), Ψ, inferInstance, cx, Br.intro (fun h => by cases h) (fun _ => ?_)⟩
      refine exI_mk (fun p k c iI R' Φ' m => ∃ (st : RdS) (acc : List ByteArray), k = acc.length ∧ iI = acc.length ∧ R' = .buf p acc.length c (strC acc) 9 1 :: rd b2 st :: (own ++ R) ∧ Φ' = Ψ ∧ st.1.length < m ∧ RdOk st ∧ acc.length + st.1.length ≤ L.length ∧ loopW (L.length + 1) (L, false) nm [] = loopW m st nm acc)
        ⟨⟨.buf none 0 0 (strC []) 9 1 :: rd b2 (L, false) :: (own ++ R), Ψ, L.length + 1, inferInstance, fun w G cx => cx.nobuf 9 1, (L, false), [], rfl, rfl, rfl, rfl, Nat.lt_succ_self _, rdOk0 L, by simp, rfl⟩, ?_⟩
      rintro p1 k1 c1 iI R1 Ψ m st ⟨rs, acc, rfl, rfl, rfl, rfl, hm, hok, hal, hlp⟩
      obtain ⟨m, rfl⟩ : ∃ z, m = z + 1 := ⟨m - 1, by omega⟩
      refine Br.intro (fun hlt => fun w G cx => ?_) (fun hge => fun w G cx => ?_)
      · have hlt := of_decide_eq_true hlt
        refine Left_to (S := .buf p1 acc.length c1 (strC acc) 9 1 :: (own ++ R)) cx.swap (Br.intro (fun hpos => fun w G cx => ?_) (fun hz => fun w G cx => ?_))
        · have hpos := of_decide_eq_true hpos
          have hne : rs.1 ≠ [] := fun e => by rw [e] at hpos; exact absurd hpos (by decide)
          have he : loopW (m + 1) rs nm acc = loopW m (stepT rs).2 nm (acc ++ [(stepT rs).1]) := by
            conv => lhs; unfold loopW
            rw [if_pos ⟨hlt, hne⟩]
          have hdec := stepT_lt hok hne
          refine Text_to (S := .buf p1 acc.length c1 (strC acc) 9 1 :: (own ++ R)) hi.num (by omega) cx (fun g w G cx => ?_)
          have cx : Ctx W w (.blk g [.string (stepT rs).1] 9 :: .buf p1 acc.length c1 (strC acc) 9 1 :: rd b2 (stepT rs).2 :: ((own ++ R) ++ G)) Ψ := cx.perm (List.Perm.cons _ (List.Perm.swap _ _ _))
          obtain ⟨p', cap', w', hr, _, c2⟩ := cx.app1 (ts := 36) (ty := 36) (kb := #[false, false]) (bytes := 16) (by kernel_rfl) (by decide) rfl rfl (by omega) (by decide)
          have es : strC acc ++ [.string (stepT rs).1] = strC (acc ++ [(stepT rs).1]) := by
            show _ = List.map Value.string (acc ++ [(stepT rs).1])
            rw [List.map_append]; rfl
          have el : acc.length + 1 = (acc ++ [(stepT rs).1]).length := by rw [List.length_append]; rfl
          rw [es, el] at c2
          rw [el] at hr
          exact ⟨p', _, cap', w', hr, .buf p' (acc ++ [(stepT rs).1]).length cap' (strC (acc ++ [(stepT rs).1])) 9 1 :: rd b2 (stepT rs).2 :: (own ++ R), Ψ, inferInstance, c2, by unfold I64; omega, _, Ψ, m, inferInstance, fun w G cx => cx, ⟨_, acc ++ [(stepT rs).1], rfl, by rw [← el]; omega, rfl, rfl, by omega, stepT_ok hok, by rw [← el]; omega, hlp.trans he⟩, Nat.lt_succ_self _⟩
        · have he : loopW (m + 1) rs nm acc = (acc, rs) := by
            unfold loopW
            rw [if_neg fun h => h.2 (List.eq_nil_of_length_eq_zero (by have := of_decide_eq_false hz; omega))]
          refine Done_to (S := .buf p1 acc.length c1 (strC acc) 9 1 :: (own ++ R)) cx (Br.intro (fun hd => ⟨.buf p1 acc.length c1 (strC acc) 9 1 :: (own ++ R), Ψ, inferInstance, fun w G cx => Ctx.drop1 cx, acc, rfl, rfl, rfl, ((hfin rs acc (hlp.trans he)).1 hd).1, ((hfin rs acc (hlp.trans he)).1 hd).2⟩) (fun hd => ⟨.buf p1 acc.length c1 (strC acc) 9 1 :: (own ++ R), Ψ, inferInstance, fun w G cx => Ctx.drop1 cx, acc, rfl, rfl, rfl, fun h => (by cases h), fun _ => (hfin rs acc (hlp.trans he)).2 hd⟩))
      · have he : loopW (m + 1) rs nm acc = (acc, rs) := by
          unfold loopW
          rw [if_neg fun h => of_decide_eq_false hge h.1]
        refine Done_to (S := .buf p1 acc.length c1 (strC acc) 9 1 :: (own ++ R)) cx.swap (Br.intro (fun hd => ⟨.buf p1 acc.length c1 (strC acc) 9 1 :: (own ++ R), Ψ, inferInstance, fun w G cx => Ctx.drop1 cx, acc, rfl, rfl, rfl, ((hfin rs acc (hlp.trans he)).1 hd).1, ((hfin rs acc (hlp.trans he)).1 hd).2⟩) (fun hd => ⟨.buf p1 acc.length c1 (strC acc) 9 1 :: (own ++ R), Ψ, inferInstance, fun w G cx => Ctx.drop1 cx, acc, rfl, rfl, rfl, fun h => (by cases h), fun _ => (hfin rs acc (hlp.trans he)).2 hd⟩))
    · have hgt : ¬ nb ≤ (lg.length : Int) := fun h => of_decide_eq_false hgt (by rw [bs_size]; exact h)
      refine ⟨.buf none 0 0 (strC []) 9 1 :: (own ++ R), Ψ, inferInstance, fun w G cx => cx.nobuf 9 1, [], rfl, rfl, rfl, fun h => ?_, fun _ => hno fun _ h => absurd h hgt⟩
      rw [bs_size, decide_eq_false hgt] at h
      cases h
    · rintro c p1 k1 cp R1 Ψ st ⟨l, rfl, rfl, rfl, h1, h2⟩
      exact reads_fin hΦ hp h1 h2
  · subst hok
    refine exI_mk (fun p k c R' Φ' => p = none ∧ k = 0 ∧ c = 0 ∧ R' = .buf none 0 0 (strC []) 9 1 :: (own ++ R) ∧ Φ' = Ψ) ⟨⟨_, Ψ, inferInstance, fun w G cx => cx.drop1.nobuf 9 1, rfl, rfl, rfl, rfl, rfl⟩, ?_⟩
    rintro p0 k0 c0 R1 Ψ st ⟨rfl, rfl, rfl, rfl, rfl⟩
    refine exI_mk (fun c p k cp R' Φ' => ∃ l : List ByteArray, k = l.length ∧ R' = .buf p l.length cp (strC l) 9 1 :: (own ++ R) ∧ Φ' = Ψ ∧ (c = true → ∃ j, readsR lg v = (some j, 0) ∧ j.list = l) ∧ (c = false → readsR lg v = (none, 2))) ⟨⟨_, Ψ, inferInstance, fun w G cx => cx, [], rfl, rfl, rfl, fun h => (by cases h), fun _ => hno fun h => (by cases h)⟩, ?_⟩
    rintro c p1 k1 cp R1 Ψ st ⟨l, rfl, rfl, rfl, h1, h2⟩
    exact reads_fin hΦ hp h1 h2
end
end Go.Proofs.YtfccagphnfceiaaDoor
end

/-
  From what a row lists as laid to the facts of the walk.
-/
section
set_option linter.unusedVariables false
set_option linter.unusedSimpArgs false
namespace Go.Proofs.YtfccagphnfceiaaDoor
open Go.Vc Go.RowKit


theorem la_row (u : TypeId) (h : Tryd.prog.typeName? 3 u = some "*errors.errorString") : u = 140 :=
  typeName_ptr_named (nm := "errors.errorString") (by rw [show "*" ++ "errors.errorString" = "*errors.errorString" by decide]; kernel_rfl) (by kernel_rfl) (by decide) u (by rw [show "*" ++ "errors.errorString" = "*errors.errorString" by decide]; exact h)

theorem la_err {n : String} {text : List UInt8} {r : List (String × DataW Unit)} {W : World} {g : Nat} (h : laidMet Tryd.prog ((n, .iface "*errors.errorString" (.ptr (.agg [.lit (.string text)]))) :: r) W)
    (hg : Tryd.prog.globalNamed n = some g) (ht : (Tryd.prog.globals[g]?).map (·.type) = some 92) : ErrAt g [] W := by
  obtain ⟨a, s, hv, _⟩ := laid_sentinel h hg ht Tryd.underlying92 la_row Tryd.underlying140 Tryd.underlying142 rfl rfl Tryd.underlying9 (by kernel_rfl) (by kernel_rfl)
  exact ⟨by simp, _, by have h0 := World.var?_cell hg hv 0; simpa using h0, .inr ⟨_, _, rfl⟩⟩

abbrev LaidI : PW := fun M w => NumI M w ∧ OffI M w
theorem la_num {W : World} (h : laidMetH Tryd.prog Rows.journalReadsRow.laid W) : LaidI [] W := by
  rw [MakeChecks.laidMetH_plain Tryd.prog Rows.journalReadsRow.laid W (by kernel_rfl)] at h
  have h2 := h.tail.tail
  exact ⟨⟨Tab.start (Lib.tabIs_of_head (k := .u64) (zs := Lib.pow10Tab) (g := 1) (t := 127) (e := 110) (n := 20) (by kernel_rfl) (by kernel_rfl) (by kernel_rfl) (by kernel_rfl) (by kernel_rfl) (by kernel_rfl) h2),
    la_err h2.tail.tail.tail (by kernel_rfl) (by kernel_rfl), la_err h2.tail.tail (by kernel_rfl) (by kernel_rfl)⟩,
    Tab.start (Lib.tabIs_of_head (k := .i64) (zs := [0, 64, 131072]) (g := 0) (t := 87) (e := 3) (n := 3) (by kernel_rfl) (by kernel_rfl) (by kernel_rfl) (by kernel_rfl) (by kernel_rfl) (by kernel_rfl) h2.tail)⟩

end Go.Proofs.YtfccagphnfceiaaDoor
end

section
set_option linter.unusedVariables false
set_option linter.unusedSimpArgs false
namespace Go.Proofs.YtfccagphnfceiaaDoor
open Go.ChangeShapes Go.WideShapes Go.ChangeAt Go.RowKit Go.Vc


theorem df_own : ownKnob Tryd.prog.godebug = none := by kernel_rfl
theorem df_laid : laidOutB Tryd.prog = true := by kernel_rfl

theorem wf_I64 {x : Int} (h : (Lit.int .i64 x).wf = true) : I64 x := by
  simp [Lit.wf, IntKind.min, IntKind.max, IntKind.signed, IntKind.bits] at h
  exact h

theorem trodAll_n {H : Type} {enc : TypeId × Value → H} {P : Program} {w : World} {base : Nat} {spare : Nat → Bool} {held : Bool} {t0 t1 t2 t3 : TypeId} {args : Array Value} {ds : List (DataW H)} {ps : List MemPlace} (h : DataW.TrodAll enc P w base spare held [t0, t1, t2, t3] args.toList ds ps) :
    ∃ v0 v1 v2 v3 d0 d1 d2 d3 p0 p1 p2 p3, args = #[v0, v1, v2, v3] ∧ ds = [d0, d1, d2, d3] ∧ ps = p0 ++ p1 ++ p2 ++ p3 ∧ DataW.Trod enc P w base spare held t0 v0 d0 p0 ∧ DataW.Trod enc P w base spare held t1 v1 d1 p1 ∧ DataW.Trod enc P w base spare held t2 v2 d2 p2 ∧ DataW.Trod enc P w base spare held t3 v3 d3 p3 := by
  obtain ⟨v0, vs0, d0, ds0, p0, q0, hargs, rfl, rfl, h0, h⟩ := trodAll_cons h
  obtain ⟨v1, vs1, d1, ds1, p1, q1, rfl, rfl, rfl, h1, h⟩ := trodAll_cons h
  obtain ⟨v2, vs2, d2, ds2, p2, q2, rfl, rfl, rfl, h2, h⟩ := trodAll_cons h
  obtain ⟨v3, vs3, d3, ds3, p3, q3, rfl, rfl, rfl, h3, h⟩ := trodAll_cons h
  obtain ⟨rfl, rfl, rfl⟩ := trodAll_nil h
  exact ⟨v0, v1, v2, v3, d0, d1, d2, d3, p0, p1, p2, p3, by cases args; simp_all, rfl, by simp, h0, h1, h2, h3⟩

theorem door_met (os : Os) (args : Array Value) : laidMetH Tryd.prog Rows.journalReadsRow.laid ((World.doorLaid Tryd.prog 400 os).forCall (fun _ _ => 0) ⟨#[], args, []⟩).memory :=
  laidMetH_of_parts3 (fuel := 8) (laidMet_of_run' 8 (by kernel_rfl) (by kernel_rfl)) (by kernel_rfl) (by kernel_rfl)

set_option maxRecDepth 100000 in
theorem law_lifted (os : Os) (started : os.Started) (H : Type) (enc : TypeId × Value → H) :
    ReturnsInHanded {} Tryd.checked os 3 .any (fun w args => (Rows.journalReadsSpec.pre enc Tryd.prog Tryd.f3 Rows.journalReadsRow.domain false w args ∧ laidMetH Tryd.prog Rows.journalReadsRow.laid w) ∧ sizedMet enc Tryd.prog Tryd.f3 (OpenSpec.ofChange Rows.journalReadsSpec) false w args) (Rows.journalReadsSpec.post enc Tryd.prog Tryd.f3 false true false false) := by
  refine lawTrueLaid (C := Tryd.checked) (tb := 4) df_own started (by kernel_rfl) Tryd.func3 df_laid rfl ?_ rfl Tryd.underlying4 (by kernel_rfl)
    (ChangeSpec.witness_shaped (enc := enc) (C := Tryd.checked) (os := os) (X := fun w _ => laidMetH Tryd.prog Rows.journalReadsRow.laid w) false (World.doorLaid Tryd.prog 400 os) #[.string .empty, .int .i64 0, .int .i64 0, .string .empty] 8 rfl (World.shaped_of_RefB (by kernel_rfl) (by kernel_rfl)) (by kernel_rfl) (by kernel_rfl) (by kernel_rfl) (door_met os _)) ?_
  · intro ds hd
    match ds, hd with
    | [_, _, _, _], _ => exact ⟨rfl, rfl, rfl⟩
  · intro W base args ds p hval0 hA0 _ hL
    have hval : ∀ (j : Nat) t v, Tryd.f3.params[j]? = some t → args[j]? = some v → Value.okWide Tryd.prog W .any base t v := hval0
    have hA : DataW.TrodAll enc Tryd.prog W 0 (fun _ => true) true Tryd.f3.params.toList args.toList ds p := hA0
    rw [Tryd.params3] at hA hval
    obtain ⟨v0, v1, v2, v3, d0, d1, d2, d3, p0, p1, p2, p3, rfl, rfl, rfl, h0, h1, h2, h3⟩ := trodAll_n hA
    obtain ⟨log, rfl, rfl, rfl, logw⟩ := Go.ChangeMaps.open_string Tryd.underlying9 (hval 0 9 v0 rfl rfl) h0
    obtain ⟨bytes, rfl, rfl, rfl, bytesw⟩ := open_int Tryd.underlying3 (hval 1 3 v1 rfl rfl) h1
    obtain ⟨n, rfl, rfl, rfl, nw⟩ := open_int Tryd.underlying3 (hval 2 3 v2 rfl rfl) h2
    obtain ⟨raw, rfl, rfl, rfl, raww⟩ := Go.ChangeMaps.open_string Tryd.underlying9 (hval 3 9 v3 rfl rfl) h3
    have st0 : Stable (fun M w => LaidI M w) := inferInstance
    have fin : GivesIn (fun M w => LaidI M w) Tryd.prog 3 _ (.bool true) := Reads_in (Φ := (fun M w => LaidI M w)) ⟨fun _ _ h => h.1, fun _ _ h => h.2⟩ (lg := log.data.toList) (rw := raw.data.toList) (wf_I64 bytesw) (wf_I64 nw)
    exact fin.law (la_num hL)

theorem row_holds : Rows.JournalReadsSaid :=
  OpenClaim.holds_of_wide 3 Tryd.f3 rfl rfl rfl rfl rfl rfl rfl ⟨rfl, rfl, rfl, rfl, rfl⟩ rfl rfl rfl rfl rfl (by kernel_rfl) Tryd.func3 (by kernel_rfl)
    (of_decide_eq_true (by kernel_rfl)) (by unfold Func.isWrapper; first | (rw [if_pos (by decide +kernel)]; kernel_rfl) | (rw [if_neg (by decide +kernel)]; exact ⟨rfl, rfl⟩))
    (fun os started H enc _ => law_lifted os started H enc)

theorem reads_holds : Rows.JournalReadsCardSaid :=
  Claim7.holds_tied_plain_at .later [] [.data, .data, .data, .data, .sentinel, .sentinel] true Rows.journalReadsCard.stood.harness true
    row_holds (fun _ h => by cases h) (by kernel_rfl) (fun _ h => by cases h) journalReads_row_tie rfl ⟨rfl, rfl⟩ (by kernel_rfl) rfl
    (fun f fn hf hfn => by
      obtain rfl : f = 3 := Option.some.inj ((show Tryd.prog.funcNamed Rows.journalReadsRow.func = some 3 by kernel_rfl).symm.trans hf) |>.symm
      obtain rfl : fn = Tryd.f3 := (Option.some.inj (Tryd.func3.symm.trans hfn)).symm
      exact ⟨by kernel_rfl, fun j t ht => by
        rw [Tryd.params3] at ht
        have hm := Array.mem_of_getElem? ht
        have hall : ((Tryd.f3.params.toList).all fun u => !Tryd.prog.wantsStandIn u) = true := by kernel_rfl
        rw [Tryd.params3] at hall
        exact (show Tryd.prog.wantsStandIn t = false by simpa using List.all_eq_true.1 hall t (by simpa using hm))⟩)
    (by kernel_rfl)

end Go.Proofs.YtfccagphnfceiaaDoor
end

