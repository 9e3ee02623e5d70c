/-
  For every input erratalaw06.JournalCuts returns true, does not panic, comes to an end, and leaves what came in as it was; the variables that its row lists are as the program's text lays them.
  Conditions: none beyond the given statement's own (JournalCutsCardSaid).
-/
import Derived.Test.YtfccagphnfceiaaDoorJCu7
import Derived.Test.YtfccagphnfceiaaDoorJCu5
import Derived.Test.YtfccagphnfceiaaDoorJCu6
import Derived.Test.YtfccagphnfceiaaDoorCards
import Derived.MakeChecks
import Derived.Stop.LaidErr
import Derived.Lib.LaidTab
import Derived.Test.YtfccagphnfceiaaDoorTie
import Derived.SevenTiedAt
import Derived.LaidMore
import Derived.ChangeMaps5
import Derived.Test.YtfccagphnfceiaaDoorRows

/-
  The form of a list; the numbers in the cell; reading a list: walked.
-/
section
set_option linter.unusedVariables false
set_option linter.unusedSimpArgs false
namespace Go.Proofs.YtfccagphnfceiaaDoor
open Go.Vc

section
variable {W w : World} {S G : List Own} {Φ : PW} {p : Option Addr} {cap : Nat} {l : List ByteArray} {o : Own}
theorem form_in [Stable Φ] (hT : ∀ M w, Φ M w → TabI M w) (hsl : ∀ M w, Φ M w → Sl M w p l) (hlen : (formL l).length ≤ 1000000000) : GivesIn Φ Tryd.prog F.journal_form #[.slice p l.length cap] (.string (bs (formL l))) := by
  refine .there (fun M w h => (hsl M w h).there) fun hth => ?_
  have hn := formL_len (l := l) fun x hx => Nat.le_trans (formL_size hx) (by omega)
  refine gives_in (Bjournal_form_run p l.length cap) fun W R => fun b => ?_
  refine exI_mk (fun iI R' Φ' k => ∃ (i : Nat) (Q : List Own), iI = i ∧ i + k = l.length ∧ BdT b (formL (l.take i)) Q ∧ R' = Q ++ R ∧ Φ' = Φ) ⟨?_, ?_⟩
  · refine ⟨_, Φ, l.length, inferInstance, fun w G cx => ?_, 0, [.blk b [.pointer none, .slice none 0 0] 98, .buf none 0 0 (Lib.byteCells []) 5 1], rfl, by omega, Bd.nil, rfl, rfl⟩
    exact Bd.fresh cx
  rintro iI R2 Φ k _ ⟨i, Q, rfl, hik, hQ, rfl, rfl⟩
  refine Br.intro (fun hlt => ?_) (fun hge => fun w G cx => ?_)
  · have hlt : i < l.length := by have := of_decide_eq_true hlt; omega
    obtain ⟨k, rfl⟩ : ∃ m, k = m + 1 := ⟨k - 1, by omega⟩
    obtain ⟨g, o, rfl⟩ := hth (by omega)
    have hsz := formL_size (List.getElem_mem hlt)
    have hstep : formL (l.take (i + 1)) = formL (l.take i) ++ (textB l[i]).data.toList := by
      rw [List.take_succ_eq_append_getElem hlt, formL_app]
      simp [formL]
    have hle : (formL (l.take (i + 1))).length ≤ (formL l).length := by
      have e : formL l = formL (l.take (i + 1)) ++ formL (l.drop (i + 1)) := by rw [← formL_app, List.take_append_drop]
      rw [e, List.length_append]; omega
    refine ⟨⟨by omega, by omega⟩, ptrK_intro g o rfl fun w G cx => ⟨l[i], by rw [Int.toNat_natCast]; exact sl_str (hsl _ _ cx.phi) hlt, fun w G cx => (Text_in (Φ := Φ) (.inl ⟨hT, by unfold I64; omega⟩) (by omega)).use cx fun w cx => ⟨_, rfl, Q ++ R, Φ, inferInstance, cx, fun w G cx => ?_⟩⟩⟩
    refine WriteString_use (textB l[i]) hQ (cx.re (List.append_assoc _ _ _)) (by rw [hstep, List.length_append, list_size] at hle; omega) fun Q' w hQ' cx => ⟨_, _, rfl, Q' ++ R, Φ, inferInstance, by rw [List.append_assoc]; exact cx, by unfold I64; omega, _, Φ, k, inferInstance, fun w G cx => cx, ⟨i + 1, Q', by omega, by omega, ?_, rfl, rfl⟩, Nat.lt_succ_self _⟩
    rw [hstep]; exact hQ'
  · have hge : i = l.length := by have := of_decide_eq_false hge; omega
    subst hge
    rw [List.take_length] at hQ
    exact String_use hQ (cx.re (List.append_assoc _ _ _)) fun w cx => ⟨_, rfl, R, Φ, inferInstance, cx, fun w G cx => ⟨rfl, cx.left⟩⟩

theorem numbers_use [Stable Φ] (hN : ∀ M w, Φ M w → NumI M w) {cb : Nat} {q : DkP} {c : CelS} (hl : c.value.length ≤ 1000000000) (cx : Ctx W w (clO cb q c :: S) Φ) {K : Ending → World → Prop}
    (hk : ∀ w', Ctx W w' (clO cb q c :: S) Φ → K (.returned (.tuple #[.int .i64 (numsJ c).1, .int .i64 (numsJ c).2.1, .bool (numsJ c).2.2])) w') : Calls Tryd.prog F.journal_numbers #[.pointer (some ⟨cb, 0, none⟩)] w K := by
  refine (Bjournal_numbers_run cb 0 (J := fun u w' => K (.returned u) w') cx fun w G cx => CGet_use (S := S ++ G) cx fun w cx => ⟨_, _, rfl, clO cb q c :: S, Φ, inferInstance, cx, Br.intro (fun h => fun w G cx => ?_) (fun h => fun w G cx => ?_)⟩).mono fun e w' ⟨v, he, hj⟩ => by rw [he]; exact hj
  · have h : c.slot = 0 := by
      have : ¬ 0 < c.slot := by simpa using h
      omega
    have e : numsJ c = (0, 0, true) := by unfold numsJ; rw [if_pos h]
    rw [e] at hk
    exact hk w cx.left
  · have h : ¬ c.slot = 0 := by
      have : 0 < c.slot := by simpa using h
      omega
    have e : numsJ c = ((rdNat (c.value, false)).1, (rdNat (rdNat (c.value, false)).2).1, rdDone (rdNat (rdNat (c.value, false)).2).2) := by unfold numsJ; rw [if_neg h]
    rw [e] at hk
    have hlen : (rdNat (c.value, false)).2.1.length ≤ c.value.length := stepN_len 59 0 (c.value, false)
    refine Open_use c.value cx fun b w cx => ⟨_, rfl, rd b (c.value, false) :: clO cb q c :: S, Φ, inferInstance, cx, fun w G cx => RNum_to (S := clO cb q c :: S) hN (by show c.value.length ≤ _; omega) cx (fun w G cx => RNum_to (S := clO cb q c :: S) hN (by omega) cx (fun w G cx => Done_to (S := clO cb q c :: S) cx (fun w G cx => hk w (Ctx.left (Ctx.drop1 cx)))))⟩

theorem read_end [Stable Φ] (hT : ∀ M w, Φ M w → TabI M w) {s : Bs} (hs : s.length ≤ 16777216) {n : Int} {b : Nat} {st : RdS} (hform : st.2 = false → formL l ++ st.1 = s) (cx : Ctx W w ((.buf p l.length cap (strC l) 9 1 :: rd b st :: S) ++ G) Φ) {K : Ending → World → Prop}
    (h0 : ∀ w', endJ s n (l, st) = none → Ctx W w' S Φ → K (.returned (.tuple #[.slice p l.length cap, .bool false])) w')
    (h1 : ∀ w', endJ s n (l, st) = some l → Ctx W w' (.buf p l.length cap (strC l) 9 1 :: S) Φ → K (.returned (.tuple #[.slice p l.length cap, .bool true])) w') :
    Calls Tryd.prog F.wire_Reader_Done #[.pointer (some ⟨b, 0, none⟩)] w fun e w' => ∃ c, e = .returned (.bool c) ∧ ∃ R' Φ', Stable Φ' ∧ Ctx W w' (R' ++ G) Φ' ∧
      Br c (Br (decide ((l.length : Int) = n)) (∀ w G, Ctx W w (R' ++ G) Φ' → Calls Tryd.prog F.journal_form #[.slice p l.length cap] w fun e w' => ∃ s1, e = .returned (.string s1) ∧ ∃ R2 Φ2, Stable Φ2 ∧ Ctx W w' (R2 ++ G) Φ2 ∧ ∀ w G, Ctx W w (R2 ++ G) Φ2 → K (.returned (.tuple #[.slice p l.length cap, .bool (decide (s1 = bs s))])) w)
        (∀ w G, Ctx W w (R' ++ G) Φ' → K (.returned (.tuple #[.slice p l.length cap, .bool false])) w)) (∀ w G, Ctx W w (R' ++ G) Φ' → K (.returned (.tuple #[.slice p l.length cap, .bool false])) w) := by
  refine Done_to (S := .buf p l.length cap (strC l) 9 1 :: S) cx.swap (Br.intro (fun hd => Br.intro (fun hn => fun w G cx => ?_) (fun hn => fun w G cx => ?_)) (fun hd => fun w G cx => ?_))
  · have hst := done_is hd
    subst hst
    have hf := hform rfl
    rw [List.append_nil] at hf
    have he : endJ s n (l, ([], false)) = some l := by unfold endJ; exact if_pos ⟨hd, of_decide_eq_true hn, hf⟩
    have hlen : (formL l).length ≤ 16777216 := by rw [hf]; exact hs
    have hsz : ∀ x ∈ l, x.size ≤ maxLen := fun x hx => Nat.le_trans (formL_size hx) (by unfold maxLen; omega)
    have c2 : Ctx W w ([Own.buf p l.length cap (strC l) 9 1] ++ (rd b ([], false) :: (S ++ G))) Φ := Ctx.swap (S := S ++ G) cx
    have c3 := c2.aside
    refine (form_in (Φ := Go.Vc.Aside W [.buf p l.length cap (strC l) 9 1] Φ) (fun M w h => hT M w h.less) (fun M w h => (SB.buf p cap l).sl hsz h) (by omega)).use c3 fun w c4 => ⟨_, rfl, .buf p l.length cap (strC l) 9 1 :: rd b ([], false) :: S, Φ, inferInstance, c4.unaside, fun w G cx => ?_⟩
    rw [hf, decide_eq_true (rfl : bs s = bs s)]
    exact h1 w he (Ctx.drop1 (Ctx.swap (Ctx.left (S := .buf p l.length cap (strC l) 9 1 :: rd b ([], false) :: S) cx)))
  · have he : endJ s n (l, st) = none := by unfold endJ; exact if_neg fun h => of_decide_eq_false hn h.2.1
    exact h0 w he (Ctx.drop1 (Ctx.drop1 (Ctx.left cx)))
  · have he : endJ s n (l, st) = none := by unfold endJ; exact if_neg fun h => by rw [h.1] at hd; cases hd
    exact h0 w he (Ctx.drop1 (Ctx.drop1 (Ctx.left cx)))

theorem Read_use [Stable Φ] (hN : ∀ M w, Φ M w → NumI M w) {s : Bs} (hs : s.length ≤ 16777216) {n : Int} (cx : Ctx W w S Φ) {K : Ending → World → Prop}
    (h0 : ∀ p k c w', readJ s n = none → Ctx W w' S Φ → K (.returned (.tuple #[.slice p k c, .bool false])) w')
    (h1 : ∀ p cap l o w', readJ s n = some l → SB p cap l o → Ctx W w' (o :: S) Φ → K (.returned (.tuple #[.slice p l.length cap, .bool true])) w') :
    Calls Tryd.prog F.journal_read #[.string (bs s), .int .i64 n] w K := by
  have hT : ∀ M w, Φ M w → TabI M w := fun M w h => (hN M w h).1
  refine (Bjournal_read_run (bs s) n (J := fun u w' => K (.returned u) w') cx fun w G cx => Open_use s cx fun b w cx => ⟨_, rfl, rd b (s, false) :: S, Φ, inferInstance, cx, ?_⟩).mono fun e w' ⟨v, he, hj⟩ => by rw [he]; exact hj
  refine exI_mk (fun p k c R' Φ' m => ∃ (st : RdS) (acc : List ByteArray), k = acc.length ∧ R' = .buf p acc.length c (strC acc) 9 1 :: rd b st :: S ∧ Φ' = Φ ∧ st.1.length < m ∧ acc.length + st.1.length ≤ s.length ∧ (st.2 = false → formL acc ++ st.1 = s) ∧ readJ s n = endJ s n (loopJ m st n acc))
    ⟨⟨.buf none 0 0 (strC []) 9 1 :: rd b (s, false) :: S, Φ, s.length + 1, inferInstance, fun w G cx => cx.nobuf 9 1, (s, false), [], rfl, rfl, rfl, Nat.lt_succ_self _, by simp, fun _ => rfl, rfl⟩, ?_⟩
  rintro p k c R1 Φ m st ⟨rs, acc, rfl, rfl, rfl, hm, hal, hform, hread⟩
  obtain ⟨m, rfl⟩ : ∃ x, m = x + 1 := ⟨m - 1, by omega⟩
  have hfin : ∀ st', (st'.2 = false → formL acc ++ st'.1 = s) → loopJ (m + 1) rs n acc = (acc, st') → ∀ {w : World} {G : List Own}, Ctx W w ((.buf p acc.length c (strC acc) 9 1 :: rd b st' :: S) ++ G) Φ → _ := fun st' hf hlp {w G} cx =>
    read_end (S := S) (G := G) (K := K) (n := n) hT hs hf cx (fun w he cx => h0 p acc.length c w (by rw [hread, hlp]; exact he) cx) (fun w he cx => h1 p c acc _ w (by rw [hread, hlp]; exact he) (SB.buf p c acc) cx)
  refine Br.intro (fun hlt => fun w G cx => ?_) (fun hge => fun w G cx => ?_)
  · have hlt := of_decide_eq_true hlt
    have e : loopJ (m + 1) rs n acc = if rs.1.length ≤ (stepT rs).2.1.length ∨ rs.1 = [] then (acc, (stepT rs).2) else loopJ m (stepT rs).2 n (acc ++ [(stepT rs).1]) := by
      conv => lhs; unfold loopJ
      rw [if_pos hlt]
    have hf2 : (stepT rs).2.2 = false → formL acc ++ ((textB (stepT rs).1).data.toList ++ (stepT rs).2.1) = s := fun hb => by
      obtain ⟨h1, h2⟩ := text_is hb
      rw [← h2]; exact hform h1
    refine Left_to (S := .buf p acc.length c (strC acc) 9 1 :: S) cx.swap (fun w G cx => Text_to (S := .buf p acc.length c (strC acc) 9 1 :: S) hN (by omega) cx (fun w G cx => Left_to (S := .buf p acc.length c (strC acc) 9 1 :: S) cx (Br.intro (fun h2 => fun w G cx => ?_) (fun h2 => Br.intro (fun h3 => fun w G cx => ?_) (fun h3 => fun k w G cx => ?_)))))
    · rw [if_pos (.inl (by have := of_decide_eq_true h2; omega))] at e
      exact hfin (stepT rs).2 (fun hb => by obtain ⟨h1, h2⟩ := text_is hb; exact absurd h1 (by
        intro h3
        have := hf2 hb
        have e2 := congrArg List.length h2
        rw [List.length_append, textB_list, List.length_append, List.length_cons, List.length_append, List.length_singleton] at e2
        have := of_decide_eq_true ‹_›
        omega)) e cx.swap
    · rw [if_pos (.inr (List.eq_nil_of_length_eq_zero (by have := of_decide_eq_true h3; omega)))] at e
      have h0 : rs.1 = [] := List.eq_nil_of_length_eq_zero (by have := of_decide_eq_true h3; omega)
      exact hfin (stepT rs).2 (fun hb => by rw [stepT_nil h0] at hb; cases hb) e cx.swap
    · have h2 := of_decide_eq_false h2
      have h3 := of_decide_eq_false h3
      have hc : ¬ (rs.1.length ≤ (stepT rs).2.1.length ∨ rs.1 = []) := fun h => h.elim (fun h => h2 (by omega)) (fun h => h3 (by rw [h]; rfl))
      rw [if_neg hc] at e
      have cx : Ctx W w (.blk k [.string (stepT rs).1] 9 :: .buf p acc.length c (strC acc) 9 1 :: rd b (stepT rs).2 :: (S ++ G)) Φ := cx.perm (List.Perm.cons _ (List.Perm.swap _ _ _))
      obtain ⟨p', cap', w', hr, _, c2⟩ := cx.app1 (ts := 36) (ty := 36) (kb := #[false, false]) (bytes := 16) (by kernel_rfl) (by decide) rfl rfl (by omega) (by decide)
      have es : strC acc ++ [.string (stepT rs).1] = strC (acc ++ [(stepT rs).1]) := by
        show _ = List.map Value.string (acc ++ [(stepT rs).1])
        rw [List.map_append]; rfl
      have el : acc.length + 1 = (acc ++ [(stepT rs).1]).length := by rw [List.length_append]; rfl
      rw [es, el] at c2
      rw [el] at hr
      refine ⟨p', _, cap', w', hr, .buf p' (acc ++ [(stepT rs).1]).length cap' (strC (acc ++ [(stepT rs).1])) 9 1 :: rd b (stepT rs).2 :: S, Φ, inferInstance, c2, _, Φ, m, inferInstance, fun w G cx => cx, ⟨_, acc ++ [(stepT rs).1], rfl, rfl, rfl, by omega, by rw [← el]; omega, fun hb => ?_, by rw [hread, e]⟩, Nat.lt_succ_self _⟩
      have := hf2 hb
      rw [formL_app, List.append_assoc, show formL [(stepT rs).1] = (textB (stepT rs).1).data.toList by simp [formL]]
      exact this
  · have e : loopJ (m + 1) rs n acc = (acc, rs) := by unfold loopJ; rw [if_neg (of_decide_eq_false hge)]
    exact hfin rs hform e cx
end
end Go.Proofs.YtfccagphnfceiaaDoor
end

/-
  A journal in memory: note, Append: walked.
-/
section
set_option linter.unusedVariables false
set_option linter.unusedSimpArgs false
namespace Go.Proofs.YtfccagphnfceiaaDoor
open Go.Vc

structure JoP where
  jb : Nat
  cb : Nat
  p : Option Addr
  cap : Nat
  o : Own
abbrev joB (x : JoP) (q : DkP) (j : JouS) : List Value := [.pointer (some ⟨q.db, 0, none⟩), .int .i64 j.base, .pointer (some ⟨x.cb, 0, none⟩), .slice x.p j.list.length x.cap, .int .i64 (j.bytes : Int), .bool j.broken]
/-- what a journal owns -/
abbrev JoO (x : JoP) (q : DkP) (j : JouS) : List Own := [x.o, .blk x.jb (joB x q j) 71, clO x.cb q j.cell]
def JoP.mv (x : JoP) (p : Option Addr) (cap : Nat) (o : Own) : JoP := ⟨x.jb, x.cb, p, cap, o⟩

section
variable {W w : World} {S G : List Own} {Φ : PW}
theorem jd_in [Stable Φ] {A X S G : List Own} (cx : Ctx W w ((A ++ (X ++ S)) ++ G) Φ) : Ctx W w (X ++ (A ++ (S ++ G))) Φ := by
  rw [List.append_assoc, List.append_assoc] at cx
  exact cx.perm (perm3 _ _ _ _)
theorem jd_out [Stable Φ] {A X S G : List Own} (cx : Ctx W w (X ++ (A ++ (S ++ G))) Φ) : Ctx W w ((A ++ (X ++ S)) ++ G) Φ := by
  rw [List.append_assoc, List.append_assoc]
  exact cx.perm (perm3 _ _ _ _)
theorem jc_in [Stable Φ] {a b c : Own} {X S G : List Own} (cx : Ctx W w (([a, b, c] ++ (X ++ S)) ++ G) Φ) : Ctx W w (c :: (X ++ (a :: b :: (S ++ G)))) Φ :=
  jd_in (A := [a, b]) (X := c :: X) cx
theorem jc_out [Stable Φ] {a b c : Own} {X S G : List Own} (cx : Ctx W w (c :: (X ++ (a :: b :: (S ++ G)))) Φ) : Ctx W w (([a, b, c] ++ (X ++ S)) ++ G) Φ :=
  jd_out (A := [a, b]) (X := c :: X) cx

theorem Note_use [Stable Φ] {q : DkP} {d : DsS} (hq : DkQ q d) (hkp : DkK Φ q d) (hoff : ∀ M w, Φ M w → OffI M w) (hT : ∀ M w, Φ M w → TabI M w) {x : JoP} {j : JouS} {b n : Nat} (hb : b ≤ 1099511627776) (hn : n ≤ 1099511627776) (cx : Ctx W w (JoO x q j ++ (dkL q d ++ S)) Φ) {K : Ending → World → Prop}
    (hk : ∀ u w', DkQ (q.mv u) (noteS d j b n).1 → Ctx W w' (JoO x q (noteS d j b n).2.1 ++ (dkL (q.mv u) (noteS d j b n).1 ++ S)) Φ → K (.returned (.int .i64 (noteS d j b n).2.2)) w') :
    Calls Tryd.prog F.journal_Journal_note #[.pointer (some ⟨x.jb, 0, none⟩), .int .i64 (b : Int), .int .i64 (n : Int)] w K := by
  have h1 := intB_size (n := (b : Int)) (by unfold I64; omega)
  have h2 := intB_size (n := (n : Int)) (by unfold I64; omega)
  refine (Bjournal_Journal_note_run x.jb 0 (b : Int) (n : Int) (J := fun u w' => K (.returned u) w') cx ⟨_, Φ, inferInstance, fun w G cx => cx, some ⟨x.cb, 0, none⟩, fun w G cx => ⟨_, cx.get 1 rfl rfl, rfl⟩, fun w G cx => (Int_in (Φ := Φ) (.inl ⟨hT, by unfold I64; omega⟩)).use cx fun w cx => ⟨_, rfl, _, Φ, inferInstance, cx, fun w G cx => cx, fun w G cx => (Int_in (Φ := Φ) (.inl ⟨hT, by unfold I64; omega⟩)).use cx fun w cx => ⟨_, rfl, _, Φ, inferInstance, cx, fun w G cx => cx, by show (intB (b : Int)).size + (intB (n : Int)).size ≤ _; omega, fun w G cx => ?_⟩⟩⟩).mono fun e w' ⟨v, he, hj⟩ => by rw [he]; exact hj
  have e : intB (b : Int) ++ intB (n : Int) = bs (encB b n) := by
    apply ByteArray.ext
    apply Array.toList_inj.1
    simp [encB, bs]
  rw [e]
  unfold noteS at hk
  refine CSet_use (S := x.o :: .blk x.jb (joB x q j) 71 :: (S ++ G)) hq hkp hoff (jc_in cx) fun u w hq1 cx => ?_
  generalize setC d j.cell (encB b n) = r at hk hq1 cx
  obtain ⟨d1, c1, e1⟩ := r
  simp only at hk hq1 cx
  refine ⟨e1, rfl, [x.o, .blk x.jb (joB x q j) 71, clO x.cb q c1] ++ (dkL (q.mv u) d1 ++ S), Φ, inferInstance, jc_out cx, fun w G cx => ⟨cx.can 1 rfl (by show 5 + 1 ≤ 6; omega), fun w' hw' => ?_⟩⟩
  exact ⟨_, Φ, inferInstance, cx.put 1 hw' rfl, fun w G cx => hk u w hq1 (Ctx.left cx)⟩
end
end Go.Proofs.YtfccagphnfceiaaDoor
end

/-
  A journal in memory: Append: walked.
-/
section
set_option linter.unusedVariables false
set_option linter.unusedSimpArgs false
namespace Go.Proofs.YtfccagphnfceiaaDoor
open Go.Vc

theorem log_keep (d : DsS) (j : JouS) (l : List ByteArray) : (logS d j l).1.keep = d.keep := by
  unfold logS; split
  · rw [sync_keep, write_keep]
  · exact write_keep _ _ _ _
theorem setC2_keep (d : DsS) (c : CelS) (s : Bs) (n : Nat) : (setC2 d c s n).1.keep = d.keep := by
  unfold setC2
  repeat' split
  all_goals simp only [sync_keep, write_keep]
theorem setC_keep (d : DsS) (c : CelS) (s : Bs) : (setC d c s).1.keep = d.keep := by
  unfold setC
  repeat' split
  all_goals simp only [sync_keep, setC2_keep]
theorem note_keep (d : DsS) (j : JouS) (b n : Nat) : (noteS d j b n).1.keep = d.keep := setC_keep _ _ _

section
variable {W w : World} {S G : List Own} {Φ : PW}
theorem Append_use [Stable Φ] {q : DkP} {d : DsS} (hq : DkQ q d) (hkp : DkK Φ q d) (hoff : ∀ M w, Φ M w → OffI M w) (hT : ∀ M w, Φ M w → TabI M w) {x : JoP} {j : JouS} (hsb : SB x.p x.cap j.list x.o) {lp : Option Addr} {lc : Nat} {l : List ByteArray}
    (hsl : ∀ M w, Φ M w → Sl M w lp l) (hf : (formL l).length ≤ 1000000000) (hb : j.bytes ≤ 1000000000) (hn : j.list.length + l.length < 100000000) (cx : Ctx W w (JoO x q j ++ (dkL q d ++ S)) Φ) {K : Ending → World → Prop}
    (hk : ∀ u p c o w', SB p c (appendS d j l).2.1.list o → DkQ (q.mv u) (appendS d j l).1 → Ctx W w' (JoO (x.mv p c o) q (appendS d j l).2.1 ++ (dkL (q.mv u) (appendS d j l).1 ++ S)) Φ → K (.returned (.int .i64 (appendS d j l).2.2)) w') :
    Calls Tryd.prog F.journal_Journal_Append #[.pointer (some ⟨x.jb, 0, none⟩), .slice lp l.length lc] w K := by
  have hsame : ∀ {e : Int} {w' : World} {G : List Own}, appendS d j l = (d, j, e) → Ctx W w' ((JoO x q j ++ (dkL q d ++ S)) ++ G) Φ → K (.returned (.int .i64 e)) w' := by
    intro e w' G he cx
    rw [he] at hk
    exact hk q.un x.p x.cap x.o w' hsb hq (Ctx.left cx)
  refine (Bjournal_Journal_Append_run x.jb 0 lp l.length lc (J := fun u w' => K (.returned u) w') cx fun w G cx => (form_in (Φ := Φ) hT hsl hf).use cx fun w cx => ⟨_, rfl, _, Φ, inferInstance, cx, fun w G cx => ⟨_, cx.get 1 rfl rfl, Br.intro (fun h => fun w G cx => ?_) (fun h => Br.intro (fun h2 => fun w G cx => ?_) (fun h2 => fun w G cx => ⟨(j.bytes : Int), cx.get 1 rfl rfl, ?_, Br.intro (fun h3 => fun w G cx => ?_) (fun h3 => ?_)⟩))⟩⟩).mono fun e w' ⟨v, he, hj⟩ => by rw [he]; exact hj
  · exact hsame (by unfold appendS; rw [if_pos h]) cx
  · exact hsame (by unfold appendS; rw [if_neg (by rw [h]; simp), if_pos (List.eq_nil_of_length_eq_zero (by have := of_decide_eq_true h2; omega))]) cx
  · rw [bs_size]; unfold I64; omega
  all_goals rw [bs_size] at *
  all_goals have h : ¬ j.broken = true := by rw [h]; simp
  all_goals have h2 : ¬ l = [] := fun e => of_decide_eq_false h2 (by rw [e]; rfl)
  · exact hsame (by unfold appendS; rw [if_neg h, if_neg h2, if_pos (by have := of_decide_eq_true h3; omega)]) cx
  have h3 : ¬ 1048576 < j.bytes + (formL l).length := by have := of_decide_eq_false h3; omega
  have happ : appendS d j l = if (logS d j l).2 ≠ 0 then ((logS d j l).1, { j with broken := true }, (logS d j l).2) else gotS j (j.list ++ l) (j.bytes + (formL l).length) (noteS (logS d j l).1 j (j.bytes + (formL l).length) (j.list.length + l.length)) := by
    unfold appendS; rw [if_neg h, if_neg h2, if_neg h3]
  rw [happ] at hk
  have hlk := log_keep d j l
  have hlog : logS d j l = if (writeS d j.base j.bytes (formL l)).2 = 0 then syncS (writeS d j.base j.bytes (formL l)).1 j.base else writeS d j.base j.bytes (formL l) := rfl
  clear happ hsame
  refine ⟨_, Φ, inferInstance, fun w G cx => cx, some ⟨q.db, 0, none⟩, fun w G cx => ⟨_, cx.get 1 rfl rfl, rfl⟩, j.base, fun w G cx => ⟨_, cx.get 1 rfl rfl, rfl⟩, (j.bytes : Int), fun w G cx => ⟨_, cx.get 1 rfl rfl, rfl⟩, fun w G cx => ?_⟩
  have hwk := write_keep d j.base j.bytes (formL l)
  refine Write_use (S := JoO x q j ++ (S ++ G)) hq hkp (by omega) (jd_in cx) fun u w hq1 cx => ?_
  generalize writeS d j.base j.bytes (formL l) = r at hlog hq1 cx hwk
  obtain ⟨d1, e1⟩ := r
  simp only at hlog hq1 cx hwk
  refine ⟨e1, rfl, JoO x q j ++ (dkL (q.mv u) d1 ++ S), Φ, inferInstance, jd_out cx, ?_⟩
  refine exI_mk (fun n R' Φ' => ∃ u, n = (logS d j l).2 ∧ R' = JoO x q j ++ (dkL (q.mv u) (logS d j l).1 ++ S) ∧ Φ' = Φ ∧ DkQ (q.mv u) (logS d j l).1) ⟨Br.intro (fun h4 => ?_) (fun h4 => ?_), ?_⟩
  · rw [if_pos (of_decide_eq_true h4)] at hlog
    refine ⟨_, Φ, inferInstance, fun w G cx => cx, some ⟨q.db, 0, none⟩, fun w G cx => ⟨_, cx.get 1 rfl rfl, rfl⟩, j.base, fun w G cx => ⟨_, cx.get 1 rfl rfl, rfl⟩, fun w G cx => ?_⟩
    refine Sync_use (q := q.mv u) (S := JoO x q j ++ (S ++ G)) hq1 (hkp.of hwk u) (jd_in cx) fun u w hq2 cx => ⟨_, rfl, JoO x q j ++ (dkL (q.mv u) (syncS d1 j.base).1 ++ S), Φ, inferInstance, jd_out cx, _, Φ, inferInstance, fun w G cx => cx, u, by rw [hlog], by rw [hlog], rfl, by rw [hlog]; exact hq2⟩
  · rw [if_neg (of_decide_eq_false h4)] at hlog
    exact ⟨_, Φ, inferInstance, fun w G cx => cx, u, by rw [hlog], by rw [hlog], rfl, by rw [hlog]; exact hq1⟩
  clear hlog hq1 cx hwk
  rintro n R1 Φ st ⟨u, rfl, rfl, rfl, hq1⟩
  generalize logS d j l = r at hk hq1 hlk
  obtain ⟨d1, e1⟩ := r
  simp only at hk hq1 hlk ⊢
  refine Br.intro (fun h4 => fun w G cx => ⟨cx.can 1 rfl (by show 5 + 1 ≤ 6; omega), fun w' hw' => ?_⟩) (fun h4 => ?_)
  · rw [if_pos (of_decide_eq_true h4)] at hk
    exact ⟨JoO x q { j with broken := true } ++ (dkL (q.mv u) d1 ++ S), Φ, inferInstance, cx.put 1 hw' rfl, fun w G cx => hk u x.p x.cap x.o w hsb hq1 (Ctx.left cx)⟩
  rw [if_neg (of_decide_eq_false h4)] at hk
  refine ⟨_, Φ, inferInstance, fun w G cx => cx, (j.bytes : Int), fun w G cx => ⟨_, cx.get 1 rfl rfl, rfl⟩, x.p, j.list.length, x.cap, fun w G cx => ⟨_, _, _, cx.get 1 rfl rfl, rfl⟩, by unfold I64; omega, by unfold I64; omega, fun w G cx => ?_⟩
  rw [← Int.natCast_add, ← Int.natCast_add]
  have hnk := note_keep d1 j (j.bytes + (formL l).length) (j.list.length + l.length)
  refine Note_use (S := S ++ G) (q := q.mv u) hq1 (hkp.of hlk u) hoff hT (by omega) (by omega) (by rw [← List.append_assoc (dkL _ _), ← List.append_assoc]; exact cx) fun u w hq2 cx => ?_
  have hnl : (noteS d1 j (j.bytes + (formL l).length) (j.list.length + l.length)).2.1.list = j.list := rfl
  have hnb : (noteS d1 j (j.bytes + (formL l).length) (j.list.length + l.length)).2.1.bytes = j.bytes := rfl
  generalize noteS d1 j (j.bytes + (formL l).length) (j.list.length + l.length) = r at hk hq2 cx hnk hnl hnb
  obtain ⟨d2, j2, e2⟩ := r
  simp only at hk hq2 cx hnk hnl hnb
  refine ⟨e2, rfl, JoO x q j2 ++ (dkL (q.mv u) d2 ++ S), Φ, inferInstance, by rw [← List.append_assoc (dkL _ _), ← List.append_assoc] at cx; exact cx, Br.intro (fun h5 => fun w G cx => ?_) (fun h5 => ?_)⟩
  · have e : gotS j (j.list ++ l) (j.bytes + (formL l).length) (d2, j2, e2) = (d2, j2, e2) := by unfold gotS; rw [if_pos (of_decide_eq_true h5)]
    rw [e] at hk
    exact hk u x.p x.cap x.o w (by rw [hnl]; exact hsb) hq2 (Ctx.left cx)
  have e : gotS j (j.list ++ l) (j.bytes + (formL l).length) (d2, j2, e2) = (d2, { j2 with list := j.list ++ l, bytes := j.bytes + (formL l).length }, 0) := by unfold gotS; rw [if_neg (of_decide_eq_false h5)]
  rw [e] at hk
  have hsub : ∀ {o1 o2 o3 : Own} {X : List Own}, [o2].Sublist ([o1, o2, o3] ++ X) := fun {o1 o2 o3 X} => .cons _ (.cons_cons _ (List.nil_sublist _))
  refine ⟨[], tru, inferInstance, fun w G cx => cut_to cx (List.nil_sublist _), [.blk x.jb (joB x q j2) 71], tru, inferInstance, fun w G cx => cut_to cx hsub, fun w G cx => ⟨_, _, _, cx.get 1 rfl rfl, (j.bytes : Int), fun w G cx => ⟨(j2.bytes : Int), cx.get 0 rfl rfl, by rw [hnb]⟩, by unfold I64; omega, fun w G cx => ?_⟩⟩
  rw [hnl]
  obtain ⟨p', cap', w', o', hr, hsb', c2⟩ := hsb.app (c2 := lc) (S := .blk x.jb (joB x q j2) 71 :: clO x.cb q j2.cell :: ((dkL (q.mv u) d2 ++ S) ++ G)) cx hsl (List.length_pos_iff.2 h2) hn
  refine ⟨p', _, cap', w', hr, [o', .blk x.jb (joB x q j2) 71, clO x.cb q j2.cell] ++ (dkL (q.mv u) d2 ++ S), Φ, inferInstance, c2, fun w G cx => cut_to cx (List.nil_sublist _), fun w G cx => cut_to cx hsub, fun w G cx => ⟨cx.can 1 rfl (by show 3 + 1 ≤ 6; omega), fun w' hw' => ?_⟩⟩
  refine ⟨[o', .blk x.jb ((joB x q j2).set 3 (.slice p' (j.list.length + l.length) cap')) 71, clO x.cb q j2.cell] ++ (dkL (q.mv u) d2 ++ S), Φ, inferInstance, cx.put 1 hw' rfl, fun w G cx => cut_to cx (List.nil_sublist _), trivial, fun w G cx => ⟨cx.can 1 rfl (by show 4 + 1 ≤ 6; omega), fun w' hw' => ?_⟩⟩
  rw [← Int.natCast_add] at hw'
  refine ⟨[o', .blk x.jb (((joB x q j2).set 3 (.slice p' (j.list.length + l.length) cap')).set 4 (.int .i64 ((j.bytes + (formL l).length : Nat) : Int))) 71, clO x.cb q j2.cell] ++ (dkL (q.mv u) d2 ++ S), Φ, inferInstance, cx.put 1 hw' rfl, fun w G cx => cut_to cx (List.nil_sublist _), trivial, fun w G cx => ?_⟩
  refine hk u p' cap' o' w hsb' hq2 ?_
  have e3 : joB (x.mv p' cap' o') q { j2 with list := j.list ++ l, bytes := j.bytes + (formL l).length } = ((joB x q j2).set 3 (.slice p' (j.list.length + l.length) cap')).set 4 (.int .i64 ((j.bytes + (formL l).length : Nat) : Int)) := by
    show [_, _, _, Value.slice p' (j.list ++ l).length cap', _, _] = _
    rw [List.length_append]; rfl
  show Ctx W w (o' :: .blk x.jb (joB (x.mv p' cap' o') q { j2 with list := j.list ++ l, bytes := j.bytes + (formL l).length }) 71 :: _) Φ
  rw [e3]
  exact Ctx.left cx
end
end Go.Proofs.YtfccagphnfceiaaDoor
end

/-
  A journal in memory: Cut, Len, Get, All: walked.
-/
section
set_option linter.unusedVariables false
set_option linter.unusedSimpArgs false
namespace Go.Proofs.YtfccagphnfceiaaDoor
open Go.Vc

section
variable {W w : World} {S G : List Own} {Φ : PW}
theorem Cut_use [Stable Φ] {q : DkP} {d : DsS} (hq : DkQ q d) (hkp : DkK Φ q d) (hoff : ∀ M w, Φ M w → OffI M w) (hT : ∀ M w, Φ M w → TabI M w) {x : JoP} {j : JouS} (hsb : SB x.p x.cap j.list x.o) {n : Int}
    (hf : (formL j.list).length ≤ 1000000000) (cx : Ctx W w (JoO x q j ++ (dkL q d ++ S)) Φ) {K : Ending → World → Prop}
    (hk : ∀ u p c o w', SB p c (cutS d j n).2.1.list o → DkQ (q.mv u) (cutS d j n).1 → Ctx W w' (JoO (x.mv p c o) q (cutS d j n).2.1 ++ (dkL (q.mv u) (cutS d j n).1 ++ S)) Φ → K (.returned (.int .i64 (cutS d j n).2.2)) w') :
    Calls Tryd.prog F.journal_Journal_Cut #[.pointer (some ⟨x.jb, 0, none⟩), .int .i64 n] w K := by
  have hsame : ∀ {e : Int} {w' : World} {G : List Own}, cutS d j n = (d, j, e) → Ctx W w' ((JoO x q j ++ (dkL q d ++ S)) ++ G) Φ → K (.returned (.int .i64 e)) w' := by
    intro e w' G he cx
    rw [he] at hk
    exact hk q.un x.p x.cap x.o w' hsb hq (Ctx.left cx)
  have hl := formL_len (l := j.list) fun x hx => Nat.le_trans (formL_size hx) (by omega)
  refine (Bjournal_Journal_Cut_run x.jb 0 n (J := fun u w' => K (.returned u) w') cx fun w G cx => ⟨_, cx.get 1 rfl rfl, Br.intro (fun h => fun w G cx => ?_) (fun h => fun w G cx => ⟨_, _, _, fun _ => cx.get 1 rfl rfl, Br.intro (fun h2 => fun w G cx => ?_) (fun h2 => fun w G cx => ⟨_, _, _, cx.get 1 rfl rfl, Br.intro (fun h3 => fun w G cx => ?_) (fun h3 => fun w G cx => ⟨_, _, _, cx.get 1 rfl rfl, ?_⟩)⟩)⟩)⟩).mono fun e w' ⟨v, he, hj⟩ => by rw [he]; exact hj
  · exact hsame (by unfold cutS; rw [if_pos h]) cx
  all_goals have h : ¬ j.broken = true := by rw [h]; simp
  · have h2 : n < 0 ∨ (j.list.length : Int) < n := by simpa using h2
    exact hsame (by unfold cutS; rw [if_neg h, if_pos h2]) cx
  all_goals have h2 : ¬ (n < 0 ∨ (j.list.length : Int) < n) := by simpa using h2
  · exact hsame (by unfold cutS; rw [if_neg h, if_neg h2, if_pos (of_decide_eq_true h3)]) cx
  have h3 := of_decide_eq_false h3
  obtain ⟨k, rfl⟩ : ∃ k : Nat, n = k := ⟨n.toNat, by omega⟩
  have hk2 : k < j.list.length := by omega
  have hcut : cutS d j (k : Int) = gotS j (j.list.take k) (formL (j.list.take k)).length (noteS d j (formL (j.list.take k)).length k) := by
    unfold cutS; rw [if_neg h, if_neg h2, if_neg h3, Int.toNat_natCast]
  rw [hcut] at hk
  clear hcut hsame
  obtain ⟨g, o2, hp, hcap, _, _⟩ := hsb.cutAt (k := k) (S := .blk x.jb (joB x q j) 71 :: clO x.cb q j.cell :: ((dkL q d ++ S) ++ G)) cx hk2
  have hle : (formL (j.list.take k)).length ≤ (formL j.list).length := by
    have e : formL j.list = formL (j.list.take k) ++ formL (j.list.drop k) := by rw [← formL_app, List.take_append_drop]
    rw [e, List.length_append]; omega
  have hsz : ∀ y ∈ j.list, y.size ≤ maxLen := fun y hy => Nat.le_trans (formL_size hy) (by unfold maxLen; omega)
  have hkl : (j.list.take k).length = k := by rw [List.length_take]; omega
  refine ⟨⟨by omega, by omega⟩, fun w G cx => ?_⟩
  have c2 : Ctx W w ([x.o] ++ (.blk x.jb (joB x q j) 71 :: clO x.cb q j.cell :: ((dkL q d ++ S) ++ G))) Φ := cx
  have hform := form_in (Φ := Go.Vc.Aside W [x.o] Φ) (p := x.p) (cap := x.cap) (l := j.list.take k) (fun M w h => hT M w h.less) (fun M w h => sl_take (hsb.sl hsz h) k) (by omega)
  rw [hkl] at hform
  rw [show subPtr x.p 1 0 x.cap = x.p by rw [hp]; exact subPtr_zero _ _ _, Int.toNat_natCast]
  refine hform.use c2.aside fun w c3 => ⟨_, rfl, JoO x q j ++ (dkL q d ++ S), Φ, inferInstance, c3.unaside, fun w G cx => ?_⟩
  have hnk := note_keep d j (formL (j.list.take k)).length k
  rw [bs_size]
  refine Note_use (S := S ++ G) hq hkp hoff hT (by omega) (by omega) (by rw [← List.append_assoc (dkL _ _), ← List.append_assoc]; exact cx) fun u w hq2 cx => ?_
  have hnl : (noteS d j (formL (j.list.take k)).length k).2.1.list = j.list := rfl
  generalize noteS d j (formL (j.list.take k)).length k = r at hk hq2 cx hnk hnl
  obtain ⟨d2, j2, e2⟩ := r
  simp only at hk hq2 cx hnk hnl
  refine ⟨e2, rfl, JoO x q j2 ++ (dkL (q.mv u) d2 ++ S), Φ, inferInstance, by rw [← List.append_assoc (dkL _ _), ← List.append_assoc] at cx; exact cx, Br.intro (fun h5 => fun w G cx => ?_) (fun h5 => fun w G cx => ⟨x.p, j2.list.length, x.cap, cx.get 1 rfl rfl, ⟨by omega, by omega, by omega⟩, fun w G cx => ⟨cx.can 1 rfl (by show 3 + 1 ≤ 6; omega), fun w' hw' => ?_⟩⟩)⟩
  · have e : gotS j (j.list.take k) (formL (j.list.take k)).length (d2, j2, e2) = (d2, j2, e2) := by unfold gotS; rw [if_pos (of_decide_eq_true h5)]
    rw [e] at hk
    exact hk u x.p x.cap x.o w (by rw [hnl]; exact hsb) hq2 (Ctx.left cx)
  have e : gotS j (j.list.take k) (formL (j.list.take k)).length (d2, j2, e2) = (d2, { j2 with list := j.list.take k, bytes := (formL (j.list.take k)).length }, 0) := by unfold gotS; rw [if_neg (of_decide_eq_false h5)]
  rw [e] at hk
  rw [show subPtr x.p 1 0 k = x.p by rw [hp]; exact subPtr_zero _ _ _] at hw'
  refine ⟨[x.o, .blk x.jb ((joB x q j2).set 3 (.slice x.p k k)) 71, clO x.cb q j2.cell] ++ (dkL (q.mv u) d2 ++ S), Φ, inferInstance, cx.put 1 hw' rfl, fun w G cx => ⟨cx.can 1 rfl (by show 4 + 1 ≤ 6; omega), fun w' hw' => ?_⟩⟩
  refine ⟨[x.o, .blk x.jb (((joB x q j2).set 3 (.slice x.p k k)).set 4 (.int .i64 ((formL (j.list.take k)).length : Int))) 71, clO x.cb q j2.cell] ++ (dkL (q.mv u) d2 ++ S), Φ, inferInstance, cx.put 1 hw' rfl, fun w G cx => ?_⟩
  have cx := Ctx.left cx
  obtain ⟨g3, o3, hp3, _, hsb3, c4⟩ := hsb.cutAt (k := k) (S := .blk x.jb (((joB x q j2).set 3 (.slice x.p k k)).set 4 (.int .i64 ((formL (j.list.take k)).length : Int))) 71 :: clO x.cb q j2.cell :: (dkL (q.mv u) d2 ++ S)) cx hk2
  refine hk u x.p k o3 w hsb3 hq2 ?_
  have e3 : joB (x.mv x.p k o3) q { j2 with list := j.list.take k, bytes := (formL (j.list.take k)).length } = ((joB x q j2).set 3 (.slice x.p k k)).set 4 (.int .i64 ((formL (j.list.take k)).length : Int)) := by
    show [_, _, _, Value.slice x.p (j.list.take k).length k, _, _] = _
    rw [hkl]; rfl
  show Ctx W w (o3 :: .blk x.jb (joB (x.mv x.p k o3) q { j2 with list := j.list.take k, bytes := (formL (j.list.take k)).length }) 71 :: _) Φ
  rw [e3]
  exact c4

theorem Len_use [Stable Φ] {q : DkP} {x : JoP} {j : JouS} (cx : Ctx W w (JoO x q j ++ S) Φ) {K : Ending → World → Prop} (hk : ∀ w', Ctx W w' (JoO x q j ++ S) Φ → K (.returned (.int .i64 (j.list.length : Int))) w') :
    Calls Tryd.prog F.journal_Journal_Len #[.pointer (some ⟨x.jb, 0, none⟩)] w K := by
  refine (Bjournal_Journal_Len_run x.jb 0 (J := fun u w' => K (.returned u) w') cx fun w G cx => ⟨_, _, _, cx.get 1 rfl rfl, fun w G cx => hk w (Ctx.left cx)⟩).mono fun e w' ⟨v, he, hj⟩ => by rw [he]; exact hj
def getJ (l : List ByteArray) (i : Int) : ByteArray := if i < 0 ∨ (l.length : Int) ≤ i then ByteArray.mk #[] else l.getD i.toNat (ByteArray.mk #[])
theorem JGet_use [Stable Φ] {q : DkP} {x : JoP} {j : JouS} (hsb : SB x.p x.cap j.list x.o) {i : Int} (cx : Ctx W w (JoO x q j ++ S) Φ) {K : Ending → World → Prop} (hk : ∀ w', Ctx W w' (JoO x q j ++ S) Φ → K (.returned (.string (getJ j.list i))) w') :
    Calls Tryd.prog F.journal_Journal_Get #[.pointer (some ⟨x.jb, 0, none⟩), .int .i64 i] w K := by
  unfold getJ at hk
  have hp : 0 < j.list.length → ∃ g, x.p = some ⟨g, 0, none⟩ := fun h => by
    obtain ⟨g, hg, _⟩ := hsb.get (S := .blk x.jb (joB x q j) 71 :: clO x.cb q j.cell :: S) cx h
    exact ⟨g, hg⟩
  refine (Bjournal_Journal_Get_run x.jb 0 i (J := fun u w' => K (.returned u) w') cx fun w G cx => ⟨_, _, _, fun _ => cx.get 1 rfl rfl, Br.intro (fun h => fun w G cx => ?_) (fun h => fun w G cx => ⟨_, _, _, cx.get 1 rfl rfl, ?_⟩)⟩).mono fun e w' ⟨v, he, hj⟩ => by rw [he]; exact hj
  · have h : i < 0 ∨ (j.list.length : Int) ≤ i := by simpa using h
    rw [if_pos h] at hk
    exact hk w (Ctx.left cx)
  · have h : ¬ (i < 0 ∨ (j.list.length : Int) ≤ i) := by simpa using h
    rw [if_neg h] at hk
    obtain ⟨g, hg⟩ := hp (by omega)
    refine ⟨⟨by omega, by omega⟩, ptrK_intro g 0 hg fun w G cx => ?_⟩
    have hi : i.toNat < j.list.length := by omega
    obtain ⟨g2, hg2, hc⟩ := hsb.get (S := .blk x.jb (joB x q j) 71 :: clO x.cb q j.cell :: (S ++ G)) cx hi
    rw [hg] at hg2
    cases hg2
    refine ⟨j.list[i.toNat], by rw [Nat.zero_add]; exact hc, fun w G cx => ?_⟩
    rw [List.getD_eq_getElem?_getD, List.getElem?_eq_getElem hi] at hk
    exact hk w (Ctx.left cx)
end
end Go.Proofs.YtfccagphnfceiaaDoor
end

/-
  A journal in memory: All, Open: walked.
-/
section
set_option linter.unusedVariables false
set_option linter.unusedSimpArgs false
namespace Go.Proofs.YtfccagphnfceiaaDoor
open Go.Vc

theorem run_copy0 {P : Program} (w : World) (dT sT ty elem : TypeId) {i : TypeInfo} (hu : P.underlying dT = some (.slice elem)) (hi : P.info? elem = some i) (b : Nat) (q : Option Addr) (c : Nat) :
    (Builtin.copy_ #[dT, sT] ty #[.slice (some ⟨b, 0, none⟩) 0 0, .slice q 0 c]).run P w = .ok (Go.goInt 0) w := by
  simp [Builtin.copy_, run_underlying hu, Builtin.lenOf, Builtin.firstCells, sizeOf, typeInfo, hi]
  cases q <;> simp [loadCells, loadCellsFrom, storeCells, Result.andThen]
section
variable {W w : World} {S G : List Own} {Φ : PW}
/-- copy strings into a block of as many cells -/
theorem copy_strs [Stable Φ] {p : Option Addr} {cap : Nat} {l : List ByteArray} {o : Own} {b : Nat} (hsb : SB p cap l o) (cx : Ctx W w (.blk b (List.replicate l.length (Value.string (ByteArray.mk #[]))) 9 :: o :: S) Φ) :
    ∃ w', Sem.run Tryd.prog (builtin Builtin.copy #[36, 36] 3 #[false, false] #[.slice (some ⟨b, 0, none⟩) l.length l.length, .slice p l.length cap]) w = .ok (.value (.int .i64 l.length)) w' ∧ Ctx W w' (.blk b (strC l) 9 :: o :: S) Φ := by
  obtain ⟨i, z, e1, e2, e3, e4, e5, e6⟩ := appB_out (P := Tryd.prog) (ts := 36) (t := 9) (size := 1) (bytes := 16) (by kernel_rfl)
  by_cases h : l = []
  · subst h
    exact ⟨w, run_cpy (run_copy0 w _ _ _ _ e1 e2 b p cap), cx⟩
  · have hpos := List.length_pos_iff.2 h
    have cx2 := cx.swap
    obtain ⟨g, hg, _⟩ := hsb.get cx2 hpos
    subst hg
    have hsrc : ∀ j v, (strC l)[j]? = some v → w.cell? ((⟨g, 0, none⟩ : Addr).add j) = some v := fun j v hj => by
      have hjl : j < l.length := by have := (List.getElem?_eq_some_iff.1 hj).1; rw [strC_len] at this; exact this
      obtain ⟨g2, hg2, hc⟩ := hsb.get cx2 hjl
      cases hg2
      rw [List.getElem?_map, List.getElem?_eq_getElem hjl] at hj
      rw [addr_add, Nat.zero_add, hc]
      exact hj
    have hcan : CanWrite w b 0 l.length := cx.can 0 rfl (by rw [List.length_replicate]; omega)
    have hr := run_copyN (P := Tryd.prog) w 36 36 3 9 b 0 l.length l.length ⟨g, 0, none⟩ l.length cap (strC l) e1 e2 (by rw [e4, strC_len, Nat.mul_one]; exact (Nat.min_self _).symm) hsrc (fun j hj => (hcan j (by rw [strC_len] at hj; exact hj)).1) (fun j hj => (hcan j (by rw [strC_len] at hj; exact hj)).2) (fun v hv => by
      obtain ⟨y, _, rfl⟩ := List.mem_map.1 hv; rfl)
    rw [show Nat.min l.length l.length = l.length from Nat.min_self _] at hr
    refine ⟨_, run_cpy hr, ?_⟩
    have c3 := cx.puts 0 rfl (b := b) (i := 0) (vs := strC l) rfl
    rw [setL_eq _ _ _ (by rw [strC_len, List.length_replicate]; omega), List.take_zero, List.nil_append, strC_len, Nat.zero_add, List.drop_eq_nil_of_le (by rw [List.length_replicate]; omega), List.append_nil] at c3
    exact c3
theorem All_use [Stable Φ] {q : DkP} {x : JoP} {j : JouS} (hsb : SB x.p x.cap j.list x.o) (hl : j.list.length ≤ 1000000000) (cx : Ctx W w (JoO x q j ++ S) Φ) {K : Ending → World → Prop}
    (hk : ∀ b w', Ctx W w' (.blk b (strC j.list) 9 :: (JoO x q j ++ S)) Φ → K (.returned (.slice (some ⟨b, 0, none⟩) j.list.length j.list.length)) w') :
    Calls Tryd.prog F.journal_Journal_All #[.pointer (some ⟨x.jb, 0, none⟩)] w K := by
  refine (Bjournal_Journal_All_run x.jb 0 (J := fun u w' => K (.returned u) w') cx fun w G cx => ⟨_, _, _, cx.get 1 rfl rfl, ⟨by omega, by omega, by omega, by omega⟩, fun b w G cx => ⟨_, _, _, cx.get 2 rfl rfl, fun w G cx => ?_⟩⟩).mono fun e w' ⟨v, he, hj⟩ => by rw [he]; exact hj
  rw [Int.toNat_natCast] at cx ⊢
  obtain ⟨w', hr, c2⟩ := copy_strs (S := .blk x.jb (joB x q j) 71 :: clO x.cb q j.cell :: (S ++ G)) hsb cx
  exact ⟨_, w', hr, .blk b (strC j.list) 9 :: (JoO x q j ++ S), Φ, inferInstance, c2, fun w G cx => hk b w (Ctx.left cx)⟩

def restJ (base : Int) : Nat → DsS → DsS × Option JouS × Int
  | 0, d => (d, openJ1 d base)
  | k + 1, d => if (syncS d (if k = 0 then base + 1 else base)).2 ≠ 0 then ((syncS d (if k = 0 then base + 1 else base)).1, none, (syncS d (if k = 0 then base + 1 else base)).2) else restJ base k (syncS d (if k = 0 then base + 1 else base)).1
theorem openJ_rest {d : DsS} {base : Int} (h : ¬ (base < 0 ∨ 14 < base)) : openJ d base = restJ base 2 d := by
  unfold openJ; rw [if_neg h]; rfl
theorem openC_none {d : DsS} {f e : Int} (h : openC d f = (none, e)) : e ≠ 0 := by
  unfold openC at h
  repeat' split at h
  all_goals first
    | (cases h; assumption)
    | (cases h; decide)
    | cases h
theorem openC_value {d : DsS} {q : DkP} (hq : DkQ q d) {f e : Int} {c : CelS} (h : openC d f = (some c, e)) : c.value.length ≤ 16777216 ∧ e = 0 := by
  unfold openC at h
  repeat' split at h
  all_goals first
    | (cases h; exact ⟨Nat.zero_le _, rfl⟩)
    | (cases h; exact ⟨read_len hq _ _ _, rfl⟩)
    | cases h
theorem JOpen_use [Stable Φ] {q : DkP} {d : DsS} (hq : DkQ q d) (hkp : DkK Φ q d) (hoff : ∀ M w, Φ M w → OffI M w) (hN : ∀ M w, Φ M w → NumI M w) {base : Int} (cx : Ctx W w (dkL q d ++ S) Φ) {K : Ending → World → Prop}
    (hn : ∀ u d' e w', openJ d base = (d', none, e) → DkQ (q.mv u) d' → d'.keep = d.keep → Ctx W w' (dkL (q.mv u) d' ++ S) Φ → K (.returned (.tuple #[.pointer none, .int .i64 e])) w')
    (hs : ∀ u x d' j w', openJ d base = (d', some j, 0) → SB x.p x.cap j.list x.o → DkQ (q.mv u) d' → d'.keep = d.keep → Ctx W w' (JoO x q j ++ (dkL (q.mv u) d' ++ S)) Φ → K (.returned (.tuple #[.pointer (some ⟨x.jb, 0, none⟩), .int .i64 0])) w') :
    Calls Tryd.prog F.journal_Open #[.pointer (some ⟨q.db, 0, none⟩), .int .i64 base] w K := by
  refine (Bjournal_Open_run q.db 0 base (J := fun u w' => K (.returned u) w') cx fun w G cx => Br.intro (fun h => fun w G cx => ?_) (fun h => ?_)).mono fun e w' ⟨v, he, hj⟩ => by rw [he]; exact hj
  · have h : base < 0 ∨ 14 < base := by simpa using h
    exact hn q.un d 1 w (by unfold openJ; rw [if_pos h]) hq rfl (Ctx.left cx)
  have h : ¬ (base < 0 ∨ 14 < base) := by simpa using h
  have hrest := openJ_rest (d := d) h
  refine ⟨by unfold I64; omega, fun kb => exI_mk (fun n R' Φ' k => ∃ u d1, n = ((2 - k : Nat) : Int) ∧ k ≤ 2 ∧ R' = .blk kb [.int .i64 base, .int .i64 (base + 1)] 3 :: (dkL (q.mv u) d1 ++ S) ∧ Φ' = Φ ∧ DkQ (q.mv u) d1 ∧ d1.keep = d.keep ∧ openJ d base = restJ base k d1) ⟨⟨_, Φ, 2, inferInstance, fun w G cx => cx, q.un, d, rfl, Nat.le_refl _, rfl, rfl, hq, rfl, hrest⟩, ?_⟩⟩
  clear cx
  rintro n R1 Φ k st ⟨u, d1, rfl, hk2, rfl, rfl, hq1, hkeep, hrest⟩
  refine Br.intro (fun hlt => ⟨⟨by omega, of_decide_eq_true hlt⟩, fun w G cx => ?_⟩) (fun hge => ⟨by unfold I64; omega, fun w G cx => ?_⟩)
  · have hlt := of_decide_eq_true hlt
    obtain ⟨k, rfl⟩ : ∃ m, k = m + 1 := ⟨k - 1, by omega⟩
    have hfile : w.cell? ⟨kb, 0 + ((2 - (k + 1) : Nat) : Int).toNat, none⟩ = some (.int .i64 (if k = 0 then base + 1 else base)) := by
      rw [Int.toNat_natCast, Nat.zero_add]
      have hk : k = 0 ∨ k = 1 := by omega
      rcases hk with rfl | rfl
      · exact cx.get 0 rfl rfl
      · exact cx.get 0 rfl rfl
    refine ⟨_, hfile, fun w G cx => ?_⟩
    have hrest : openJ d base = if (syncS d1 (if k = 0 then base + 1 else base)).2 ≠ 0 then ((syncS d1 (if k = 0 then base + 1 else base)).1, none, (syncS d1 (if k = 0 then base + 1 else base)).2) else restJ base k (syncS d1 (if k = 0 then base + 1 else base)).1 := hrest
    have hsk := sync_keep d1 (if k = 0 then base + 1 else base)
    refine Sync_use (q := q.mv u) (S := .blk kb [.int .i64 base, .int .i64 (base + 1)] 3 :: (S ++ G)) hq1 (hkp.of hkeep u) (own_in cx) fun u w hq2 cx => ?_
    generalize syncS d1 (if k = 0 then base + 1 else base) = r at hrest hq2 cx hsk
    obtain ⟨d2, e2⟩ := r
    simp only at hrest hq2 cx hsk
    refine ⟨e2, rfl, .blk kb [.int .i64 base, .int .i64 (base + 1)] 3 :: (dkL (q.mv u) d2 ++ S), Φ, inferInstance, own_out cx, Br.intro (fun h4 => fun w G cx => ?_) (fun h4 => ?_)⟩
    · rw [if_pos (of_decide_eq_true h4)] at hrest
      exact hn u d2 e2 w hrest hq2 (hsk.trans hkeep) (Ctx.left (Ctx.drop1 cx))
    · rw [if_neg (of_decide_eq_false h4)] at hrest
      exact ⟨by unfold I64; omega, _, Φ, k, inferInstance, fun w G cx => cx, ⟨u, d2, by omega, by omega, rfl, rfl, hq2, hsk.trans hkeep, hrest⟩, Nat.lt_succ_self _⟩
  · have hge := of_decide_eq_false hge
    have hk0 : k = 0 := by omega
    subst hk0
    have hrest : openJ d base = (d1, openJ1 d1 base) := hrest
    have cx : Ctx W w (dkL (q.mv u) d1 ++ (S ++ G)) Φ := by
      have this : Ctx W w ((dkL (q.mv u) d1 ++ S) ++ G) Φ := cx.drop1
      rw [List.append_assoc] at this
      exact this
    unfold openJ1 at hrest
    refine COpen_use (q := q.mv u) hq1 hoff cx (fun e w ho cx => ?_) (fun c cb w ho cx => ?_)
    · rw [ho] at hrest
      refine ⟨none, e, rfl, dkL (q.mv u) d1 ++ S, Φ, inferInstance, by rw [List.append_assoc]; exact cx, Br.intro (fun h4 => fun w G cx => ?_) (fun h4 => absurd (Decidable.not_not.1 (of_decide_eq_false h4)) (openC_none ho))⟩
      exact hn u d1 e w hrest hq1 hkeep (Ctx.left cx)
    · rw [ho] at hrest
      have hcv := (openC_value hq1 ho).1
      simp only at hrest
      unfold openJ2 at hrest
      refine ⟨some ⟨cb, 0, none⟩, 0, rfl, clO cb q c :: (dkL (q.mv u) d1 ++ S), Φ, inferInstance, re4 cx, Br.intro (fun h4 => absurd rfl (of_decide_eq_true h4)) (fun h4 => fun w G cx => ?_)⟩
      refine numbers_use (S := (dkL (q.mv u) d1 ++ S) ++ G) hN (by omega) cx fun w cx => ?_
      generalize numsJ c = r at hrest
      obtain ⟨b, m, ok⟩ := r
      simp only at hrest
      refine ⟨b, m, ok, rfl, clO cb q c :: (dkL (q.mv u) d1 ++ S), Φ, inferInstance, cx, Br.intro (fun h5 => fun w G cx => ?_) (fun h5 => fun w G cx => ?_)⟩
      · rw [if_pos (by simpa using h5)] at hrest
        exact hn u d1 2 w hrest hq1 hkeep (Ctx.left (Ctx.drop1 cx))
      rw [if_neg (by simpa using h5)] at hrest
      have hrl := read_len hq1 base 0 b
      refine DRead_use (q := q.mv u) (S := clO cb q c :: (S ++ G)) hq1 (own_in cx) fun w cx => ?_
      generalize readS d1 base 0 b = r at hrest hrl
      obtain ⟨s, e⟩ := r
      simp only at hrest hrl
      refine ⟨bs s, e, rfl, clO cb q c :: (dkL (q.mv u) d1 ++ S), Φ, inferInstance, own_out cx, Br.intro (fun h6 => fun w G cx => ?_) (fun h6 => fun w G cx => ?_)⟩
      · rw [if_pos (of_decide_eq_true h6)] at hrest
        exact hn u d1 e w hrest hq1 hkeep (Ctx.left (Ctx.drop1 cx))
      rw [if_neg (of_decide_eq_false h6)] at hrest
      refine Read_use (S := (clO cb q c :: (dkL (q.mv u) d1 ++ S)) ++ G) hN hrl cx (fun p k cp w hr cx => ?_) (fun p cap l o w hr hsb cx => ?_)
      · rw [hr] at hrest
        refine ⟨p, k, cp, false, rfl, clO cb q c :: (dkL (q.mv u) d1 ++ S), Φ, inferInstance, cx, fun w G cx => Br.intro (fun _ => fun w G cx => ?_) (fun h7 => by simp at h7)⟩
        exact hn u d1 2 w hrest hq1 hkeep (Ctx.left (Ctx.drop1 cx))
      · rw [hr] at hrest
        simp only at hrest
        refine ⟨p, _, cap, true, rfl, o :: clO cb q c :: (dkL (q.mv u) d1 ++ S), Φ, inferInstance, cx, fun w G cx => Br.intro (fun h7 => fun w G cx => ?_) (fun h7 => fun jb w G cx => ?_)⟩
        · have h7 : (s.length : Int) ≠ b := by rw [bs_size] at h7; simpa using h7
          rw [if_pos h7] at hrest
          exact hn u d1 2 w hrest hq1 hkeep (Ctx.left (Ctx.drop1 (Ctx.drop1 cx)))
        · have h7 : (s.length : Int) = b := by rw [bs_size] at h7; simpa using h7
          rw [if_neg (fun h => h h7)] at hrest
          have hb : b = ((b.toNat : Nat) : Int) := by omega
          refine hs u ⟨jb, cb, p, cap, o⟩ d1 _ w hrest hsb hq1 hkeep ?_
          have cx : Ctx W w ([Own.blk jb [.pointer (some ⟨q.db, 0, none⟩), .int .i64 base, .pointer (some ⟨cb, 0, none⟩), .slice p l.length cap, .int .i64 b, .bool false] 71, o] ++ (clO cb q c :: (dkL (q.mv u) d1 ++ S))) Φ := Ctx.left cx
          rw [hb] at cx
          exact cx.perm (List.Perm.swap _ _ _)
end
end Go.Proofs.YtfccagphnfceiaaDoor
end

/-
  Comparing lists; journals that work: the calls, at one go.
-/
section
set_option linter.unusedVariables false
set_option linter.unusedSimpArgs false
namespace Go.Proofs.YtfccagphnfceiaaDoor
open Go.Vc

section
variable {W w : World} {S G : List Own} {Φ : PW}
theorem Same_in [Stable Φ] {p q : Option Addr} {ac bc : Nat} {a b : List ByteArray} (ha : ∀ M w, Φ M w → Sl M w p a) (hb : ∀ M w, Φ M w → Sl M w q b) (hl : a.length ≤ 1000000000) : GivesIn Φ Tryd.prog F.errataref01_SameTexts #[.slice p a.length ac, .slice q b.length bc] (.bool (decide (a = b))) := by
  refine .there (fun M w h => (ha M w h).there) fun hta => .there (fun M w h => (hb M w h).there) fun htb => ?_
  refine gives_in (Berrataref01_SameTexts_run p a.length ac q b.length bc) fun W R => Br.intro (fun h => fun w G cx => ⟨?_, cx.left⟩) (fun h => ?_)
  · rw [decide_eq_false fun e => of_decide_eq_true h (by rw [e])]
  have h : a.length = b.length := by have := of_decide_eq_false h; omega
  refine exI_mk (fun n R' Φ' k => ∃ i : Nat, n = i ∧ i + k = a.length ∧ R' = R ∧ Φ' = Φ ∧ a.take i = b.take i) ⟨⟨_, Φ, a.length, inferInstance, fun w G cx => cx, 0, rfl, by omega, rfl, rfl, by simp⟩, ?_⟩
  rintro n R1 Φ k _ ⟨i, rfl, hik, rfl, rfl, htk⟩
  refine Br.intro (fun hlt => fun w G cx => ?_) (fun hge => fun w G cx => ⟨?_, cx.left⟩)
  · have hlt : i < a.length := by have := of_decide_eq_true hlt; omega
    obtain ⟨k, rfl⟩ : ∃ m, k = m + 1 := ⟨k - 1, by omega⟩
    obtain ⟨g, o, rfl⟩ := hta (by omega)
    obtain ⟨g2, o2, rfl⟩ := htb (by omega)
    refine ⟨⟨by omega, by omega⟩, ptrK_intro g o rfl ⟨a[i], by rw [Int.toNat_natCast]; exact sl_str (ha _ _ cx.phi) hlt, ⟨by omega, by omega⟩, ptrK_intro g2 o2 rfl ⟨b[i]'(by omega), by rw [Int.toNat_natCast]; exact sl_str (hb _ _ cx.phi) (by omega), Br.intro (fun hne => fun w G cx => ⟨?_, cx.left⟩) (fun he => ?_)⟩⟩⟩
    · rw [decide_eq_false fun e => of_decide_eq_true hne (by simp only [e])]
    · refine ⟨by unfold I64; omega, _, Φ, k, inferInstance, fun w G cx => cx, ⟨i + 1, by omega, by omega, rfl, rfl, ?_⟩, Nat.lt_succ_self _⟩
      rw [List.take_succ_eq_append_getElem hlt, List.take_succ_eq_append_getElem (by omega : i < b.length), htk, Decidable.not_not.1 (of_decide_eq_false he)]
  · have hge : i = a.length := by have := of_decide_eq_false hge; omega
    subst hge
    rw [List.take_length, h, List.take_length] at htk
    rw [decide_eq_true htk]

/-- the tables that the program reads -/
structure JI (Φ : PW) : Prop where
  num : ∀ M w, Φ M w → NumI M w
  off : ∀ M w, Φ M w → OffI M w
theorem JI.tab (h : JI Φ) : ∀ M w, Φ M w → TabI M w := fun M w hp => (h.num M w hp).1
theorem JI.weak (h : JI Φ) {Ψ : PW} (e : ∀ M w, Ψ M w → Φ M w) : JI Ψ := ⟨fun M w hp => h.num M w (e M w hp), fun M w hp => h.off M w (e M w hp)⟩
/-- a journal in memory -/
structure JM (Φ : PW) (q : DkP) (d : DsS) (x : JoP) (j : JouS) : Prop where
  dq : DkQ q d
  kk : DkK Φ q d
  sb : SB x.p x.cap j.list x.o
theorem JM.weak {q : DkP} {d : DsS} {x : JoP} {j : JouS} (h : JM Φ q d x j) {Ψ : PW} (e : ∀ M w, Ψ M w → Φ M w) : JM Ψ q d x j := ⟨h.dq, h.kk.weak e, h.sb⟩
/-- one that works -/
structure JF (d : DsS) (j : JouS) : Prop where
  live : Live d j
  ok : j.broken = false
  fine : DsH d
theorem live_len {d : DsS} {j : JouS} (h : Live d j) : j.list.length ≤ 1048576 ∧ j.bytes ≤ 1048576 ∧ ∀ x ∈ j.list, x.size ≤ 1048576 := by
  have h1 := h.most
  have h2 := formL_len (l := j.list) fun x hx => Nat.le_trans (formL_size hx) (by omega)
  have h3 := h.bytes
  exact ⟨by omega, by omega, fun x hx => Nat.le_trans (formL_size hx) h1⟩
theorem append_nil (d : DsS) {j : JouS} (h : j.broken = false) : appendS d j [] = (d, j, 0) := by
  unfold appendS; rw [if_neg (by rw [h]; simp), if_pos rfl]

theorem FAppend_use [Stable Φ] (hi : JI Φ) {q : DkP} {d : DsS} {x : JoP} {j : JouS} (hm : JM Φ q d x j) (hf : JF d j) {lp : Option Addr} {lc : Nat} {l : List ByteArray} (hsl : ∀ M w, Φ M w → Sl M w lp l) (hl : (formL j.list).length + (formL l).length ≤ 1048576) (cx : Ctx W w (JoO x q j ++ (dkL q d ++ S)) Φ) {K : Ending → World → Prop}
    (hk : ∀ u p c o d' j' w', JM Φ (q.mv u) d' (x.mv p c o) j' → JF d' j' → j'.list = j.list ++ l → j'.base = j.base → d'.keep = d.keep → (∀ G, Ev (d.files G) (d'.files G) ∨ (G = j.base ∨ G = j.base + 1)) → Ctx W w' (JoO (x.mv p c o) q j' ++ (dkL (q.mv u) d' ++ S)) Φ → K (.returned (.int .i64 0)) w') :
    Calls Tryd.prog F.journal_Journal_Append #[.pointer (some ⟨x.jb, 0, none⟩), .slice lp l.length lc] w K := by
  obtain ⟨h1, h2, h3⟩ := live_len hf.live
  have h4 := formL_len (l := l) fun x hx => Nat.le_trans (formL_size hx) (by omega)
  have hb := hf.live.bytes
  refine Append_use hm.dq hm.kk hi.off hi.tab hm.sb hsl (by omega) (by omega) (by omega) cx fun u p c o w hsb hq cx => ?_
  have hkeep : (appendS d j l).1.keep = d.keep := by
    unfold appendS
    split
    · rfl
    · split
      · rfl
      · split
        · rfl
        · split
          · exact log_keep _ _ _
          · unfold gotS; split
            · show (noteS _ _ _ _).1.keep = _
              rw [note_keep, log_keep]
            · show (noteS _ _ _ _).1.keep = _
              rw [note_keep, log_keep]
  by_cases hnil : l = []
  · subst hnil
    rw [append_nil d hf.ok] at hsb hq cx ⊢
    exact hk u p c o d j w ⟨hq, hm.kk.of rfl u, hsb⟩ hf (by simp) rfl rfl (fun G => .inl (.refl _)) cx
  have ho := append_out hf.live hf.ok hm.dq.w hnil (by omega)
  obtain ⟨hfin, he⟩ := ho.fine hf.fine
  rcases ho.or with ⟨_, g1, g2, g3⟩ | ⟨g, _⟩
  · rw [he]
    exact hk u p c o _ _ w ⟨hq, hm.kk.of hkeep u, hsb⟩ ⟨g3, g1, hfin⟩ g2 ho.base hkeep ho.other cx
  · rw [he] at g; omega
theorem got_keep (j : JouS) (l : List ByteArray) (b : Nat) (r : DsS × JouS × Int) : (gotS j l b r).1 = r.1 := by
  unfold gotS; split <;> rfl
theorem cutS_keep (d : DsS) (j : JouS) (n : Int) : (cutS d j n).1.keep = d.keep := by
  unfold cutS
  split
  · rfl
  · split
    · rfl
    · split
      · rfl
      · rw [got_keep, note_keep]
theorem FCut_use [Stable Φ] (hi : JI Φ) {q : DkP} {d : DsS} {x : JoP} {j : JouS} (hm : JM Φ q d x j) (hf : JF d j) {n : Int} (cx : Ctx W w (JoO x q j ++ (dkL q d ++ S)) Φ) {K : Ending → World → Prop}
    (hk : ∀ u p c o d' j' e w', JM Φ (q.mv u) d' (x.mv p c o) j' → JF d' j' → j'.list = (if 0 ≤ n ∧ n ≤ (j.list.length : Int) then j.list.take n.toNat else j.list) → e = (if 0 ≤ n ∧ n ≤ (j.list.length : Int) then 0 else 1) → j'.base = j.base → d'.keep = d.keep → (∀ G, Ev (d.files G) (d'.files G) ∨ (G = j.base ∨ G = j.base + 1)) → Ctx W w' (JoO (x.mv p c o) q j' ++ (dkL (q.mv u) d' ++ S)) Φ → K (.returned (.int .i64 e)) w') :
    Calls Tryd.prog F.journal_Journal_Cut #[.pointer (some ⟨x.jb, 0, none⟩), .int .i64 n] w K := by
  have hmost := hf.live.most
  refine Cut_use hm.dq hm.kk hi.off hi.tab hm.sb (by omega) cx fun u p c o w hsb hq cx => ?_
  have hkeep := cutS_keep d j n
  have hb : ¬ j.broken = true := by rw [hf.ok]; simp
  by_cases h1 : n < 0 ∨ (j.list.length : Int) < n
  · have e : cutS d j n = (d, j, 1) := by unfold cutS; rw [if_neg hb, if_pos h1]
    rw [e] at hsb hq cx hkeep ⊢
    exact hk u p c o d j 1 w ⟨hq, hm.kk.of rfl u, hsb⟩ hf (by rw [if_neg (by omega)]) (by rw [if_neg (by omega)]) rfl rfl (fun G => .inl (.refl _)) cx
  · by_cases h2 : n = (j.list.length : Int)
    · have e : cutS d j n = (d, j, 0) := by unfold cutS; rw [if_neg hb, if_neg h1, if_pos h2]
      rw [e] at hsb hq cx hkeep ⊢
      exact hk u p c o d j 0 w ⟨hq, hm.kk.of rfl u, hsb⟩ hf (by rw [if_pos (by omega), List.take_of_length_le (by omega)]) (by rw [if_pos (by omega)]) rfl rfl (fun G => .inl (.refl _)) cx
    · obtain ⟨k, rfl⟩ : ∃ k : Nat, n = k := ⟨n.toNat, by omega⟩
      have ho := cut_out hf.live hf.ok hm.dq.w (n := k) (by omega)
      obtain ⟨hfin, he⟩ := ho.fine hf.fine
      rcases ho.or with ⟨_, g1, g2, g3⟩ | ⟨g, _⟩
      · rw [he]
        exact hk u p c o _ _ 0 w ⟨hq, hm.kk.of hkeep u, hsb⟩ ⟨g3, g1, hfin⟩ (by rw [if_pos (by omega), g2, Int.toNat_natCast]) (by rw [if_pos (by omega)]) ho.base hkeep ho.other cx
      · rw [he] at g; omega
theorem FOpen_use [Stable Φ] (hi : JI Φ) {q : DkP} {d : DsS} (hq : DkQ q d) (hkk : DkK Φ q d) (hf : DsH d) {b : Int} (hb : 0 ≤ b ∧ b ≤ 14) {P : List ByteArray → Prop} (hJ : JFut d b P) (cx : Ctx W w (dkL q d ++ S) Φ) {K : Ending → World → Prop}
    (hk : ∀ u x d' j w', JM Φ (q.mv u) d' x j → JF d' j → P j.list → j.base = b → d'.keep = d.keep → (∀ G, Ev (d.files G) (d'.files G) ∨ (G = b ∨ G = b + 1)) → Ctx W w' (JoO x q j ++ (dkL (q.mv u) d' ++ S)) Φ → K (.returned (.tuple #[.pointer (some ⟨x.jb, 0, none⟩), .int .i64 0])) w') :
    Calls Tryd.prog F.journal_Open #[.pointer (some ⟨q.db, 0, none⟩), .int .i64 b] w K := by
  have ho := openJ_out hb hq.w hJ
  obtain ⟨hfin, he⟩ := ho.fine hf
  refine JOpen_use hq hkk hi.off hi.num cx (fun u d' e w hop hq' hkeep cx => ?_) (fun u x d' j w hop hsb hq' hkeep cx => ?_)
  · rcases ho.or with ⟨j, h1, _⟩ | ⟨_, h1, _⟩
    · rw [hop] at h1; cases h1
    · omega
  · rcases ho.or with ⟨j2, h1, _, h3, h4, h5, h6⟩ | ⟨h1, _⟩
    · have hoth := ho.other
      rw [hop] at h1 hfin h3 hoth
      cases h1
      exact hk u x d' j w ⟨hq', hkk.of hkeep u, hsb⟩ ⟨h3, h6, hfin⟩ h4 h5 hkeep hoth cx
    · rw [hop] at h1; cases h1
theorem cel_ev {f g : FilD} {s : Nat} {v : Bs} (h : Ev f g) (h1 : CelAt f.now s v) (h2 : CelAt f.last s v) : CelAt g.now s v ∧ CelAt g.last s v := by
  induction h with
  | refl => exact ⟨h1, h2⟩
  | step _ hs ih => exact ⟨mix_cel ih.1 ih.2 hs, mix_cel ih.1 ih.2 hs⟩
/-- files that only go through crashes keep a journal -/
theorem live_ev {d d' : DsS} {j : JouS} (h : Live d j) (h1 : Ev (d.files j.base) (d'.files j.base)) (h2 : Ev (d.files (j.base + 1)) (d'.files (j.base + 1))) : Live d' j := by
  have hc := cel_ev h2 h.now h.last
  exact ⟨h.base, h.file, h.bytes, h.most, hc.1, hc.2, h.enc, h1.pre h.log⟩
end
end Go.Proofs.YtfccagphnfceiaaDoor
end

/-
  The example of the laws of journals; the checks of what comes in: walked.
-/
section
set_option linter.unusedVariables false
set_option linter.unusedSimpArgs false
namespace Go.Proofs.YtfccagphnfceiaaDoor
open Go.Vc

theorem formL_le {l : List ByteArray} {m : Nat} (h : ∀ x ∈ l, x.size ≤ m) (hm : m ≤ 1000000000) : (formL l).length ≤ l.length * (m + 32) := by
  induction l with
  | nil => exact Nat.zero_le _
  | cons x l ih =>
    have h1 := ih fun y hy => h y (by simp [hy])
    have h2 := h x (by simp)
    have h3 := textB_size (s := x) (by omega)
    rw [formL_cons, List.length_append, List.length_cons, Nat.add_mul, Nat.one_mul, list_size]
    omega
section
variable {W w : World} {S R G : List Own} {Φ : PW}
theorem froz [Stable Φ] {b : Nat} {l : List ByteArray} (hs : ∀ x ∈ l, x.size ≤ maxLen) (cx : Ctx W w (.blk b (strC l) 9 :: S) Φ) : Ctx W w S (fun M w => Φ M w ∧ Sl M w (some ⟨b, 0, none⟩) l) := by
  obtain ⟨c1, h1⟩ := cx.freezeBlk (elems_strJ hs)
  exact c1.add h1
theorem j_in {A X S G : List Own} (cx : Ctx W w ((A ++ (X ++ S)) ++ G) Φ) : Ctx W w (A ++ (X ++ (S ++ G))) Φ := by
  rw [List.append_assoc, List.append_assoc] at cx; exact cx
theorem j_out {A X S G : List Own} (cx : Ctx W w (A ++ (X ++ (S ++ G))) Φ) : Ctx W w ((A ++ (X ++ S)) ++ G) Φ := by
  rw [List.append_assoc, List.append_assoc]; exact cx
theorem small_in [Stable Φ] (hi : JI Φ) : GivesIn Φ Tryd.prog F.erratalaw06_small #[] (.bool true) := by
  refine gives_in Berratalaw06_small_run fun W R => fun w G cx => DNew_use cx fun q w hq cx => ?_
  have hi1 : JI (fun M w => Φ M w ∧ dkF q dsNew M w) := hi.weak fun _ _ h => h.1
  have hkk : DkK (fun M w => Φ M w ∧ dkF q dsNew M w) q dsNew := ⟨Nat.zero_le _, fun M w h => h.2⟩
  refine ⟨_, rfl, dkL q dsNew ++ R, fun M w => Φ M w ∧ dkF q dsNew M w, inferInstance, cx.re (List.append_assoc _ _ _).symm, Br.intro (fun h => by cases h) (fun _ => fun w G cx => ?_)⟩
  refine FOpen_use hi1 hq hkk dsNew_h ⟨by decide, by decide⟩ (new_fut 3) (cx.re (List.append_assoc _ _ _)) fun u x d j w hm hf hl hb hkeep _ cx => ?_
  have hl : j.list = [] := hl
  refine ⟨_, _, rfl, JoO x q j ++ (dkL (q.mv u) d ++ R), _, inferInstance, by rw [← List.append_assoc (dkL _ _), ← List.append_assoc] at cx; exact cx, Br.intro (fun h => by cases h) (fun _ => fun w G cx => ?_)⟩
  refine Len_use (S := (dkL (q.mv u) d ++ R) ++ G) cx fun w cx => ⟨_, rfl, JoO x q j ++ (dkL (q.mv u) d ++ R), _, inferInstance, cx, fun b1 w G cx => ?_⟩
  -- two strings
  have s1 : ∀ y ∈ [ByteArray.mk #[97], ByteArray.mk #[98, 99]], y.size ≤ 2 := by
    intro y hy
    simp only [List.mem_cons, List.not_mem_nil, or_false] at hy
    rcases hy with rfl | rfl <;> decide
  have c1 := froz (S := (JoO x q j ++ (dkL (q.mv u) d ++ R)) ++ G) (fun y hy => Nat.le_trans (s1 y hy) (by unfold maxLen; omega)) cx
  have f1 := formL_le s1 (by omega)
  have g0 : formL j.list = [] := by rw [hl]; rfl
  refine FAppend_use (lp := some ⟨b1, 0, none⟩) (lc := 2) (l := [ByteArray.mk #[97], ByteArray.mk #[98, 99]]) (S := R ++ G) (hi1.weak fun _ _ h => h.1) (hm.weak fun _ _ h => h.1) hf (fun M w h => h.2) (by rw [g0]; simp at f1 ⊢; omega) (j_in c1) fun u1 p c o d1 j1 w hm1 hf1 hl1 hb1 hk1 _ cx => ?_
  have hm1 : JM (fun M w => Φ M w ∧ dkF q dsNew M w) ((q.mv u).mv u1) d1 (x.mv p c o) j1 := ⟨hm1.dq, hm.kk.of hk1 u1, hm1.sb⟩
  rw [hl, List.nil_append] at hl1
  refine ⟨0, rfl, JoO (x.mv p c o) q j1 ++ (dkL (q.mv u1) d1 ++ R), _, inferInstance, (j_out cx).weak fun _ _ h => h.1, fun w G cx => ?_⟩
  -- nothing
  have g1 : (formL j1.list).length ≤ 100 := by rw [hl1]; simp at f1 ⊢; omega
  refine FAppend_use (q := (q.mv u).mv u1) (S := R ++ G) hi1 hm1 hf1 (lp := none) (lc := 0) (l := []) (fun M w h => Sl.nil) (by show (formL j1.list).length + 0 ≤ _; omega) (j_in cx) fun u2 p c o d2 j2 w hm2 hf2 hl2 hb2 hk2 _ cx => ?_
  have hm2 : JM (fun M w => Φ M w ∧ dkF q dsNew M w) (((q.mv u).mv u1).mv u2) d2 (x.mv p c o) j2 := ⟨hm2.dq, hm1.kk.of hk2 u2, hm2.sb⟩
  rw [hl1, List.append_nil] at hl2
  refine ⟨0, rfl, JoO (x.mv p c o) q j2 ++ (dkL (q.mv u2) d2 ++ R), _, inferInstance, j_out cx, fun b2 w G cx => ?_⟩
  -- one more
  have s3 : ∀ y ∈ [ByteArray.mk #[100]], y.size ≤ 2 := by
    intro y hy
    rw [List.mem_singleton.1 hy]; decide
  have f3 := formL_le s3 (by omega)
  have g2 : (formL j2.list).length ≤ 100 := by rw [hl2]; simp at f1 ⊢; omega
  have c3 := froz (S := (JoO (x.mv p c o) q j2 ++ (dkL (q.mv u2) d2 ++ R)) ++ G) (fun y hy => Nat.le_trans (s3 y hy) (by unfold maxLen; omega)) cx
  refine FAppend_use (q := ((q.mv u).mv u1).mv u2) (lp := some ⟨b2, 0, none⟩) (lc := 1) (l := [ByteArray.mk #[100]]) (S := R ++ G) (hi1.weak fun _ _ h => h.1) (hm2.weak fun _ _ h => h.1) hf2 (fun M w h => h.2) (by simp at f3 ⊢; omega) (j_in c3) fun u3 p c o d3 j3 w hm3 hf3 hl3 hb3 hk3 _ cx => ?_
  have hm3 : JM (fun M w => Φ M w ∧ dkF q dsNew M w) ((((q.mv u).mv u1).mv u2).mv u3) d3 (x.mv p c o) j3 := ⟨hm3.dq, hm2.kk.of hk3 u3, hm3.sb⟩
  rw [hl2] at hl3
  refine ⟨0, rfl, JoO (x.mv p c o) q j3 ++ (dkL (q.mv u3) d3 ++ R), _, inferInstance, (j_out cx).weak fun _ _ h => h.1, fun w G cx => ?_⟩
  -- the cut
  refine FCut_use (q := (((q.mv u).mv u1).mv u2).mv u3) (S := R ++ G) hi1 hm3 hf3 (j_in cx) fun u4 p c o d4 j4 e w hm4 hf4 hl4 he4 hb4 hk4 _ cx => ?_
  have hm4 : JM (fun M w => Φ M w ∧ dkF q dsNew M w) (((((q.mv u).mv u1).mv u2).mv u3).mv u4) d4 (x.mv p c o) j4 := ⟨hm4.dq, hm3.kk.of hk4 u4, hm4.sb⟩
  rw [hl3, if_pos (by decide)] at he4 hl4
  have hl4 : j4.list = [ByteArray.mk #[97], ByteArray.mk #[98, 99]] := hl4
  subst he4
  refine ⟨0, rfl, JoO (x.mv p c o) q j4 ++ (dkL (q.mv u4) d4 ++ R), _, inferInstance, j_out cx, fun w G cx => ?_⟩
  -- all
  have l4 := (live_len hf4.live)
  refine All_use (q := q) (S := (dkL (q.mv u4) d4 ++ R) ++ G) hm4.sb (by omega) cx fun b3 w cx => ?_
  have c5 := froz (S := (JoO (x.mv p c o) q j4 ++ (dkL (q.mv u4) d4 ++ R)) ++ G) (fun y hy => Nat.le_trans (l4.2.2 y hy) (by unfold maxLen; omega)) cx
  refine ⟨_, _, _, rfl, JoO (x.mv p c o) q j4 ++ (dkL (q.mv u4) d4 ++ R), _, inferInstance, c5, fun b4 w G cx => ?_⟩
  have c6 := froz (S := (JoO (x.mv p c o) q j4 ++ (dkL (q.mv u4) d4 ++ R)) ++ G) (fun y hy => Nat.le_trans (s1 y hy) (by unfold maxLen; omega)) cx
  refine (Same_in (Φ := fun M w => ((Φ M w ∧ dkF q dsNew M w) ∧ Sl M w (some ⟨b3, 0, none⟩) j4.list) ∧ Sl M w (some ⟨b4, 0, none⟩) [ByteArray.mk #[97], ByteArray.mk #[98, 99]]) (fun M w h => h.1.2) (fun M w h => h.2) (by omega)).use c6 fun w cx => ?_
  rw [decide_eq_true hl4]
  refine ⟨true, rfl, JoO (x.mv p c o) q j4 ++ (dkL (q.mv u4) d4 ++ R), fun M w => Φ M w ∧ dkF q dsNew M w, inferInstance, cx.weak fun _ _ h => h.1.1, fun b5 w G cx => ?_⟩
  -- a last one
  have s7 : ∀ y ∈ [ByteArray.mk #[101]], y.size ≤ 2 := by
    intro y hy
    rw [List.mem_singleton.1 hy]; decide
  have f7 := formL_le s7 (by omega)
  have g4 : (formL j4.list).length ≤ 100 := by rw [hl4]; simp at f1 ⊢; omega
  have c7 := froz (S := (JoO (x.mv p c o) q j4 ++ (dkL (q.mv u4) d4 ++ R)) ++ G) (fun y hy => Nat.le_trans (s7 y hy) (by unfold maxLen; omega)) cx
  refine FAppend_use (q := ((((q.mv u).mv u1).mv u2).mv u3).mv u4) (lp := some ⟨b5, 0, none⟩) (lc := 1) (l := [ByteArray.mk #[101]]) (S := R ++ G) (hi1.weak fun _ _ h => h.1) (hm4.weak fun _ _ h => h.1) hf4 (fun M w h => h.2) (by simp at f7 ⊢; omega) (j_in c7) fun u5 p c o d5 j5 w hm5 hf5 hl5 hb5 hk5 _ cx => ?_
  rw [hl4] at hl5
  refine ⟨0, rfl, JoO (x.mv p c o) q j5 ++ (dkL (q.mv u5) d5 ++ R), _, inferInstance, j_out cx, ?_⟩
  have hj0 : (j.list.length : Int) = 0 := by rw [hl]; rfl
  rw [hj0]
  refine Br.intro (fun _ => Br.intro (fun _ => Br.intro (fun _ => Br.intro (fun _ => Br.intro (fun _ => Br.intro (fun _ => Br.intro (fun _ => Br.intro (fun _ => ?_) (fun h => by cases h)) (fun h => by cases h)) (fun h => by cases h)) (fun h => by cases h)) (fun h => by cases h)) (fun h => by cases h)) (fun h => by cases h)) (fun h => by cases h)
  refine fun w G cx => JGet_use (q := q) (S := (dkL (q.mv u5) d5 ++ R) ++ G) hm5.sb cx fun w cx => ?_
  have e2 : getJ j5.list 2 = ByteArray.mk #[101] := by rw [hl5]; rfl
  have e3 : getJ j5.list 3 = ByteArray.mk #[] := by rw [hl5]; rfl
  rw [e2]
  refine ⟨_, rfl, JoO (x.mv p c o) q j5 ++ (dkL (q.mv u5) d5 ++ R), _, inferInstance, cx, Br.intro (fun _ => fun w G cx => ?_) (fun h => absurd rfl (of_decide_eq_false h))⟩
  refine JGet_use (q := q) (S := (dkL (q.mv u5) d5 ++ R) ++ G) hm5.sb cx fun w cx => ?_
  rw [e3]
  refine ⟨_, rfl, JoO (x.mv p c o) q j5 ++ (dkL (q.mv u5) d5 ++ R), _, inferInstance, cx, fun w G cx => ⟨?_, ?_⟩⟩
  · rw [decide_eq_true (rfl : ByteArray.mk #[] = ByteArray.mk #[])]
  · have c9 := Ctx.left cx
    exact (Ctx.right (S := JoO (x.mv p c o) q j5) c9 |> Ctx.right (S := dkL (q.mv u5) d5)).weak fun _ _ h => h.1.1
end
end Go.Proofs.YtfccagphnfceiaaDoor
end

/-
  Two journals on one disk; the checks of what comes in.
-/
section
set_option linter.unusedVariables false
set_option linter.unusedSimpArgs false
namespace Go.Proofs.YtfccagphnfceiaaDoor
open Go.Vc

theorem sub_z (p : Option Addr) (sz c : Nat) : subPtr p sz 0 c = p := by
  unfold subPtr
  split
  · rfl
  · cases p with
    | none => rfl
    | some a => cases a with
      | mk b o v => rw [Nat.zero_mul]; rfl
def textsB (l : List ByteArray) : Bool := decide (∀ x ∈ l, x.size ≤ 200) && decide (l.length ≤ 8)
theorem textsB_yes {l : List ByteArray} (h : textsB l = true) : (∀ x ∈ l, x.size ≤ 200) ∧ l.length ≤ 8 := by
  unfold textsB at h
  rw [Bool.and_eq_true] at h
  exact ⟨of_decide_eq_true h.1, of_decide_eq_true h.2⟩
theorem texts_form {l : List ByteArray} (h : textsB l = true) : (formL l).length ≤ 1856 := by
  obtain ⟨h1, h2⟩ := textsB_yes h
  have := formL_le h1 (by omega)
  have h3 : l.length * (200 + 32) ≤ 8 * 232 := Nat.mul_le_mul h2 (by omega)
  omega
section
variable {W w : World} {S R G : List Own} {Φ : PW}
theorem texts_in [Stable Φ] {p : Option Addr} {c : Nat} {l : List ByteArray} (hsl : ∀ M w, Φ M w → Sl M w p l) (hl : l.length ≤ 9223372036854775807) : GivesIn Φ Tryd.prog F.erratalaw06_texts #[.slice p l.length c] (.bool (textsB l)) := by
  refine .there (fun M w h => (hsl M w h).there) fun ht => ?_
  refine gives_in (Berratalaw06_texts_run p l.length c) fun W R => ?_
  refine exI_mk (fun n R' Φ' k => ∃ i : Nat, n = i ∧ i + k = l.length ∧ R' = R ∧ Φ' = Φ ∧ ∀ x ∈ l.take i, x.size ≤ 200) ⟨⟨_, Φ, l.length, inferInstance, fun w G cx => cx, 0, rfl, by omega, rfl, rfl, by simp⟩, ?_⟩
  rintro n R1 Φ k _ ⟨i, rfl, hik, rfl, rfl, hall⟩
  refine Br.intro (fun hlt => ?_) (fun hge => fun w G cx => ⟨?_, cx.left⟩)
  · have hlt : i < l.length := by have := of_decide_eq_true hlt; omega
    obtain ⟨k, rfl⟩ : ∃ m, k = m + 1 := ⟨k - 1, by omega⟩
    obtain ⟨g, o, rfl⟩ := ht (by omega)
    refine ⟨⟨by omega, by omega⟩, ptrK_intro g o rfl fun w G cx => ⟨l[i], by rw [Int.toNat_natCast]; exact sl_str (hsl _ _ cx.phi) hlt, Br.intro (fun hbig => fun w G cx => ⟨?_, cx.left⟩) (fun hok => ⟨by unfold I64; omega, _, Φ, k, inferInstance, fun w G cx => cx, ⟨i + 1, by omega, by omega, rfl, rfl, fun x hx => ?_⟩, Nat.lt_succ_self _⟩)⟩⟩
    · have : textsB l = false := by
        unfold textsB
        rw [decide_eq_false fun h => by have h1 := h l[i] (List.getElem_mem hlt); have := of_decide_eq_true hbig; omega]; rfl
      rw [this]
    · rw [List.take_succ_eq_append_getElem hlt] at hx
      rcases List.mem_append.1 hx with hx | hx
      · exact hall x hx
      · rw [List.mem_singleton.1 hx]; have := of_decide_eq_false hok; omega
  · have hge : i = l.length := by have := of_decide_eq_false hge; omega
    subst hge
    rw [List.take_length] at hall
    unfold textsB
    rw [decide_eq_true hall, Bool.true_and]
    have : decide ((l.length : Int) ≤ 8) = decide (l.length ≤ 8) := decide_eq_decide.2 (by omega)
    rw [this]

/-- the first journal at the head, or the second one -/
theorem two_j [Stable Φ] {A B X S G : List Own} (cx : Ctx W w ((A ++ (B ++ (X ++ S))) ++ G) Φ) : Ctx W w (A ++ (X ++ (B ++ (S ++ G)))) Φ := by
  rw [List.append_assoc, List.append_assoc, List.append_assoc] at cx
  exact cx.perm ((perm3 _ _ _ _).append_left _)
theorem two_jo [Stable Φ] {A B X S G : List Own} (cx : Ctx W w (A ++ (X ++ (B ++ (S ++ G)))) Φ) : Ctx W w ((A ++ (B ++ (X ++ S))) ++ G) Φ := by
  rw [List.append_assoc, List.append_assoc, List.append_assoc]
  exact cx.perm ((perm3 _ _ _ _).append_left _)
theorem two_k [Stable Φ] {A B X S G : List Own} (cx : Ctx W w ((A ++ (B ++ (X ++ S))) ++ G) Φ) : Ctx W w (B ++ (X ++ (A ++ (S ++ G)))) Φ := by
  rw [List.append_assoc, List.append_assoc, List.append_assoc] at cx
  exact (cx.perm (perm3 _ _ _ _)).perm ((perm3 _ _ _ _).append_left _)
theorem two_ko [Stable Φ] {A B X S G : List Own} (cx : Ctx W w (B ++ (X ++ (A ++ (S ++ G)))) Φ) : Ctx W w ((A ++ (B ++ (X ++ S))) ++ G) Φ := by
  rw [List.append_assoc, List.append_assoc, List.append_assoc]
  exact (cx.perm ((perm3 _ _ _ _).append_left _)).perm (perm3 _ _ _ _)
/-- two journals on one disk, both working -/
structure TwoJ (Φ : PW) (q : DkP) (d : DsS) (x y : JoP) (j k : JouS) : Prop where
  mj : JM Φ q d x j
  mm : JM Φ q d y k
  fj : JF d j
  fk : JF d k
  bj : j.base = 0
  bk : k.base = 2
theorem TwoJ.weak {q : DkP} {d : DsS} {x y : JoP} {j k : JouS} (h : TwoJ Φ q d x y j k) {Ψ : PW} (e : ∀ M w, Ψ M w → Φ M w) : TwoJ Ψ q d x y j k := ⟨h.mj.weak e, h.mm.weak e, h.fj, h.fk, h.bj, h.bk⟩
theorem two_jn {q : DkP} {d d' : DsS} {x x' y : JoP} {j j' k : JouS} {u : DkU} (h : TwoJ Φ q d x y j k) (hm : JM Φ (q.mv u) d' x' j') (hf : JF d' j') (hb : j'.base = j.base) (hk : d'.keep = d.keep) (ho : ∀ G, Ev (d.files G) (d'.files G) ∨ (G = j.base ∨ G = j.base + 1)) : TwoJ Φ (q.mv u) d' x' y j' k := by
  have hbj := h.bj
  have hbk := h.bk
  refine ⟨hm, ⟨hm.dq, h.mm.kk.of hk u, h.mm.sb⟩, hf, ⟨live_ev h.fk.live ?_ ?_, h.fk.ok, hf.fine⟩, hb.trans h.bj, h.bk⟩
  · exact (ho _).resolve_right (by omega)
  · exact (ho _).resolve_right (by omega)
theorem two_kn {q : DkP} {d d' : DsS} {x y y' : JoP} {j k k' : JouS} {u : DkU} (h : TwoJ Φ q d x y j k) (hm : JM Φ (q.mv u) d' y' k') (hf : JF d' k') (hb : k'.base = k.base) (hk : d'.keep = d.keep) (ho : ∀ G, Ev (d.files G) (d'.files G) ∨ (G = k.base ∨ G = k.base + 1)) : TwoJ Φ (q.mv u) d' x y' j k' := by
  have hbj := h.bj
  have hbk := h.bk
  refine ⟨⟨hm.dq, h.mj.kk.of hk u, h.mj.sb⟩, hm, ⟨live_ev h.fj.live ?_ ?_, h.fj.ok, hf.fine⟩, hf, h.bj, hb.trans h.bk⟩
  · exact (ho _).resolve_right (by omega)
  · exact (ho _).resolve_right (by omega)

/-- an Append that is too long -/
theorem FFull_use [Stable Φ] (hi : JI Φ) {q : DkP} {d : DsS} {x : JoP} {j : JouS} (hm : JM Φ q d x j) (hf : JF d j) {lp : Option Addr} {lc : Nat} {l : List ByteArray} (hsl : ∀ M w, Φ M w → Sl M w lp l) (hl : 1048576 < (formL l).length ∧ (formL l).length ≤ 100000000) (cx : Ctx W w (JoO x q j ++ (dkL q d ++ S)) Φ) {K : Ending → World → Prop}
    (hk : ∀ u p c o w', JM Φ (q.mv u) d (x.mv p c o) j → Ctx W w' (JoO (x.mv p c o) q j ++ (dkL (q.mv u) d ++ S)) Φ → K (.returned (.int .i64 6)) w') :
    Calls Tryd.prog F.journal_Journal_Append #[.pointer (some ⟨x.jb, 0, none⟩), .slice lp l.length lc] w K := by
  obtain ⟨h1, h2, h3⟩ := live_len hf.live
  have h4 := formL_len (l := l) fun x hx => Nat.le_trans (formL_size hx) (by omega)
  have e : appendS d j l = (d, j, 6) := by
    unfold appendS
    rw [if_neg (by rw [hf.ok]; simp), if_neg (fun e => by rw [e] at hl; exact absurd hl.1 (by decide)), if_pos (by omega)]
  refine Append_use hm.dq hm.kk hi.off hi.tab hm.sb hsl (by omega) (by omega) (by omega) cx fun u p c o w hsb hq cx => ?_
  rw [e] at hsb hq cx ⊢
  exact hk u p c o w ⟨hq, hm.kk.of rfl u, hsb⟩ cx
end
end Go.Proofs.YtfccagphnfceiaaDoor
end

/-
  The conditions of the walks of some functions, one formula each; 'B<f>_run' says that they suffice. The formulas are printed by a program; the kernel compares them with the functions' code.
-/
section
namespace Go.Proofs.YtfccagphnfceiaaDoor
set_option linter.unusedVariables false
set_option linter.unusedSimpArgs false
set_option maxRecDepth 100000
open Go.Vc

/-- erratalaw06.JournalCuts -/
-- loop at region 26: 16 i; blocks 
-- loop at region 12: 13 i; blocks 
-- cut 16: ; blocks 
-- cut 17: 14 in; blocks 
-- cut 22: 15 want; blocks 
-- cut 24: ; blocks 
def Merratalaw06_JournalCuts (aP : Option Addr) (aN aC : Nat) (n : Int) (bP : Option Addr) (bN bC : Nat) (W : World) (R : List Own) (Φ : PW) (J : Value → World → Prop) : Prop :=
  ∀ (w0 : World) (R1 : List Own), Ctx W w0 (R ++ R1) Φ → Calls Tryd.prog F.erratalaw06_small #[] w0 fun (e2 : Ending) (w3 : World) => ∃ (c4 : Bool), e2 = Ending.returned (Value.bool c4) ∧ ∃
  (R5 : List Own), ∃ (Φ6 : PW), Stable Φ6 ∧ Ctx W w3 (R5 ++ R1) Φ6 ∧ ∀ (w7 : World) (R8 : List Own), Ctx W w7 (R5 ++ R8) Φ6 → Calls Tryd.prog F.erratalaw06_texts #[Value.slice aP aN aC] w7
  fun (e9 : Ending) (w10 : World) => ∃ (c11 : Bool), e9 = Ending.returned (Value.bool c11) ∧ ∃ (R12 : List Own), ∃ (Φ13 : PW), Stable Φ13 ∧ Ctx W w10 (R12 ++ R8) Φ13 ∧ Br (!c11) (∀ (w14 :
  World) (R15 : List Own), Ctx W w14 (R12 ++ R15) Φ13 → J (Value.bool c4) w14) (∀ (w16 : World) (R17 : List Own), Ctx W w16 (R12 ++ R17) Φ13 → Calls Tryd.prog F.erratalaw06_texts
  #[Value.slice bP bN bC] w16 fun (e18 : Ending) (w19 : World) => ∃ (c20 : Bool), e18 = Ending.returned (Value.bool c20) ∧ ∃ (R21 : List Own), ∃ (Φ22 : PW), Stable Φ22 ∧ Ctx W w19 (R21 ++
  R17) Φ22 ∧ Br (!c20) (∀ (w23 : World) (R24 : List Own), Ctx W w23 (R21 ++ R24) Φ22 → J (Value.bool c4) w23) (∀ (w25 : World) (R26 : List Own), Ctx W w25 (R21 ++ R26) Φ22 → Calls Tryd.prog
  F.disk_New #[] w25 fun (e27 : Ending) (w28 : World) => ∃ (p29 : Option Addr), e27 = Ending.returned (Value.pointer p29) ∧ ∃ (R30 : List Own), ∃ (Φ31 : PW), Stable Φ31 ∧ Ctx W w28 (R30 ++
  R26) Φ31 ∧ Br p29.isNone (∀ (w32 : World) (R33 : List Own), Ctx W w32 (R30 ++ R33) Φ31 → J (Value.bool false) w32) (∀ (w34 : World) (R35 : List Own), Ctx W w34 (R30 ++ R35) Φ31 → Calls
  Tryd.prog F.journal_Open #[Value.pointer p29, Value.int IntKind.i64 0] w34 fun (e36 : Ending) (w37 : World) => ∃ (p38 : Option Addr), ∃ (n39 : Int), e36 = Ending.returned (Value.tuple
  #[Value.pointer p38, Value.int IntKind.i64 n39]) ∧ ∃ (R40 : List Own), ∃ (Φ41 : PW), Stable Φ41 ∧ Ctx W w37 (R40 ++ R35) Φ41 ∧ ∀ (w42 : World) (R43 : List Own), Ctx W w42 (R40 ++ R43) Φ41 →
  Calls Tryd.prog F.journal_Open #[Value.pointer p29, Value.int IntKind.i64 2] w42 fun (e44 : Ending) (w45 : World) => ∃ (p46 : Option Addr), ∃ (n47 : Int), e44 = Ending.returned (Value.tuple
  #[Value.pointer p46, Value.int IntKind.i64 n47]) ∧ ∃ (R48 : List Own), ∃ (Φ49 : PW), Stable Φ49 ∧ Ctx W w45 (R48 ++ R43) Φ49 ∧ Br p38.isNone (∀ (w50 : World) (R51 : List Own), Ctx W w50
  (R48 ++ R51) Φ49 → J (Value.bool false) w50) (Br p46.isNone (∀ (w52 : World) (R53 : List Own), Ctx W w52 (R48 ++ R53) Φ49 → J (Value.bool false) w52) (∀ (w54 : World) (R55 : List Own), Ctx
  W w54 (R48 ++ R55) Φ49 → Calls Tryd.prog F.journal_Journal_Append #[Value.pointer p38, Value.slice aP aN aC] w54 fun (e56 : Ending) (w57 : World) => ∃ (n58 : Int), e56 = Ending.returned
  (Value.int IntKind.i64 n58) ∧ ∃ (R59 : List Own), ∃ (Φ60 : PW), Stable Φ60 ∧ Ctx W w57 (R59 ++ R55) Φ60 ∧ Br (decide (n58 ≠ 0)) (∀ (w61 : World) (R62 : List Own), Ctx W w61 (R59 ++ R62) Φ60
  → J (Value.bool false) w61) (exI fun (I63 : List Own → PW → Prop) => (exI fun (I64 : Int → List Own → PW → Nat → Prop) => (∃ (R65 : List Own), ∃ (Φ66 : PW), ∃ (k67 : Nat), Stable Φ66 ∧ (∀
  (w68 : World) (R69 : List Own), Ctx W w68 (R59 ++ R69) Φ60 → Ctx W w68 (R65 ++ R69) Φ66) ∧ I64 0 R65 Φ66 k67) ∧ ∀ (n70 : Int) (R71 : List Own) (I72 : List Nat → World → Prop) (k73 : Nat),
  Stable I72 → I64 n70 R71 I72 k73 → Br (decide (n70 < (↑aN : Int))) ((0 ≤ n70 ∧ n70 < (↑aN : Int)) ∧ ptrK none aP fun (k74 k75 : Nat) => ∀ (w76 : World) (R77 : List Own), Ctx W w76 (R71 ++
  R77) I72 → ∃ (s78 : ByteArray), w76.cell? (Addr.mk k74 (k75 + n70.toNat) none) = some (Value.string s78) ∧ ∀ (k79 : Nat) (w80 : World) (R81 : List Own), Ctx W w80 (Own.blk k79 [Value.string
  s78] 9 :: R71 ++ R81) I72 → Calls Tryd.prog F.journal_Journal_Append #[Value.pointer p46, Value.slice (some (Addr.mk k79 0 none)) 1 1] w80 fun (e82 : Ending) (w83 : World) => ∃ (n84 : Int),
  e82 = Ending.returned (Value.int IntKind.i64 n84) ∧ ∃ (R85 : List Own), ∃ (Φ86 : PW), Stable Φ86 ∧ Ctx W w83 (R85 ++ R81) Φ86 ∧ Br (decide (n84 ≠ 0)) (∀ (w87 : World) (R88 : List Own), Ctx
  W w87 (R85 ++ R88) Φ86 → J (Value.bool false) w87) (Vc.I64 (n70 + 1) ∧ ∃ (R89 : List Own), ∃ (Φ90 : PW), ∃ (k91 : Nat), Stable Φ90 ∧ (∀ (w92 : World) (R93 : List Own), Ctx W w92 (R85 ++
  R93) Φ86 → Ctx W w92 (R89 ++ R93) Φ90) ∧ I64 (n70 + 1) R89 Φ90 k91 ∧ k91 < k73)) (∃ (R94 : List Own), ∃ (Φ95 : PW), Stable Φ95 ∧ (∀ (w96 : World) (R97 : List Own), Ctx W w96 (R71 ++ R97)
  I72 → Ctx W w96 (R94 ++ R97) Φ95) ∧ I63 R94 Φ95)) ∧ ∀ (R98 : List Own) (I99 : List Nat → World → Prop), Stable I99 → I63 R98 I99 → exI fun (I100 : Bool → List Own → PW → Prop) => (∀ (w101 :
  World) (R102 : List Own), Ctx W w101 (R98 ++ R102) I99 → ∃ (R103 : List Own), ∃ (Φ104 : PW), Stable Φ104 ∧ (∀ (w105 : World) (R106 : List Own), Ctx W w105 (R98 ++ R106) I99 → Ctx W w105
  (R103 ++ R106) Φ104) ∧ I100 (decide (0 ≤ n) && decide (n ≤ (↑aN : Int))) R103 Φ104) ∧ ∀ (c107 : Bool) (R108 : List Own) (I109 : List Nat → World → Prop), Stable I109 → I100 c107 R108 I109 →
  ∀ (w110 : World) (R111 : List Own), Ctx W w110 (R108 ++ R111) I109 → Calls Tryd.prog F.journal_Journal_Cut #[Value.pointer p38, Value.int IntKind.i64 n] w110 fun (e112 : Ending) (w113 :
  World) => ∃ (n114 : Int), e112 = Ending.returned (Value.int IntKind.i64 n114) ∧ ∃ (R115 : List Own), ∃ (Φ116 : PW), Stable Φ116 ∧ Ctx W w113 (R115 ++ R111) Φ116 ∧ Br (decide (n114 = 0) !=
  c107) (∀ (w117 : World) (R118 : List Own), Ctx W w117 (R115 ++ R118) Φ116 → J (Value.bool false) w117) (∀ (w119 : World) (R120 : List Own), Ctx W w119 (R115 ++ R120) Φ116 → Calls Tryd.prog
  F.journal_Journal_Cut #[Value.pointer p46, Value.int IntKind.i64 n] w119 fun (e121 : Ending) (w122 : World) => ∃ (n123 : Int), e121 = Ending.returned (Value.int IntKind.i64 n123) ∧ ∃ (R124
  : List Own), ∃ (Φ125 : PW), Stable Φ125 ∧ Ctx W w122 (R124 ++ R120) Φ125 ∧ Br (decide (n123 = 0) != c107) (∀ (w126 : World) (R127 : List Own), Ctx W w126 (R124 ++ R127) Φ125 → J (Value.bool
  false) w126) (∀ (k128 : Nat) (w129 : World) (R130 : List Own), Ctx W w129 (Own.blk k128 [] 9 :: R124 ++ R130) Φ125 → ∃ (p131 : Option Addr), ∃ (k132 : Nat), ∃ (k133 : Nat), ∃ (w134 :
  World), Sem.run Tryd.prog (builtin Builtin.append #[36, 36] 36 #[false, false] #[Value.slice (some (Addr.mk k128 0 none)) 0 0, Value.slice aP aN aC]) w129 = Result.ok (Next.value
  (Value.slice p131 k132 k133)) w134 ∧ ∃ (R135 : List Own), ∃ (Φ136 : PW), Stable Φ136 ∧ Ctx W w134 (R135 ++ R130) Φ136 ∧ exI fun (I137 : Option Addr → Nat → Nat → List Own → PW → Prop) => Br
  c107 (∀ (k138 : Nat), (0 ≤ min (max n 0) (↑aN : Int) ∧ min (max n 0) (↑aN : Int) ≤ (↑aC : Int)) ∧ ∀ (w139 : World) (R140 : List Own), Ctx W w139 (Own.blk k138 [] 9 :: R135 ++ R140) Φ136 → ∃
  (p141 : Option Addr), ∃ (k142 : Nat), ∃ (k143 : Nat), ∃ (w144 : World), Sem.run Tryd.prog (builtin Builtin.append #[36, 36] 36 #[false, false] #[Value.slice (some (Addr.mk k138 0 none)) 0
  0, Value.slice (subPtr aP 1 0 aC) (min (max n 0) (↑aN : Int)).toNat aC]) w139 = Result.ok (Next.value (Value.slice p141 k142 k143)) w144 ∧ ∃ (R145 : List Own), ∃ (Φ146 : PW), Stable Φ146 ∧
  Ctx W w144 (R145 ++ R140) Φ146 ∧ ∃ (R147 : List Own), ∃ (Φ148 : PW), Stable Φ148 ∧ (∀ (w149 : World) (R150 : List Own), Ctx W w149 (R145 ++ R150) Φ146 → Ctx W w149 (R147 ++ R150) Φ148) ∧
  I137 p141 k142 k143 R147 Φ148) (∃ (R151 : List Own), ∃ (Φ152 : PW), Stable Φ152 ∧ (∀ (w153 : World) (R154 : List Own), Ctx W w153 (R135 ++ R154) Φ136 → Ctx W w153 (R151 ++ R154) Φ152) ∧
  I137 p131 k132 k133 R151 Φ152) ∧ ∀ (p155 : Option Addr) (k156 k157 : Nat) (R158 : List Own) (I159 : List Nat → World → Prop), Stable I159 → I137 p155 k156 k157 R158 I159 → exI fun (I160 :
  List Own → PW → Prop) => (∀ (w161 : World) (R162 : List Own), Ctx W w161 (R158 ++ R162) I159 → Calls Tryd.prog F.journal_Journal_Append #[Value.pointer p38, Value.slice bP bN bC] w161 fun
  (e163 : Ending) (w164 : World) => ∃ (n165 : Int), e163 = Ending.returned (Value.int IntKind.i64 n165) ∧ ∃ (R166 : List Own), ∃ (Φ167 : PW), Stable Φ167 ∧ Ctx W w164 (R166 ++ R162) Φ167 ∧ Br
  (decide (n165 ≠ 0)) (∀ (w168 : World) (R169 : List Own), Ctx W w168 (R166 ++ R169) Φ167 → J (Value.bool false) w168) (∀ (w170 : World) (R171 : List Own), Ctx W w170 (R166 ++ R171) Φ167 →
  Calls Tryd.prog F.journal_Journal_Append #[Value.pointer p46, Value.slice bP bN bC] w170 fun (e172 : Ending) (w173 : World) => ∃ (n174 : Int), e172 = Ending.returned (Value.int IntKind.i64
  n174) ∧ ∃ (R175 : List Own), ∃ (Φ176 : PW), Stable Φ176 ∧ Ctx W w173 (R175 ++ R171) Φ176 ∧ Br (decide (n174 ≠ 0)) (∀ (w177 : World) (R178 : List Own), Ctx W w177 (R175 ++ R178) Φ176 → J
  (Value.bool false) w177) (((0 : Int) ≤ 1048576 ∧ (1048576 : Int) ≤ 1048576 ∧ (1048576 : Int) ≤ 281474976710656 ∧ (1048576 : Int) ≤ 9223372036854775807) ∧ ∀ (k179 : Nat) (w180 : World) (R181
  : List Own), Ctx W w180 (Own.blk k179 (List.replicate 1048576 (Value.int IntKind.u8 0)) 5 :: R175 ++ R181) Φ176 → ∃ (s182 : ByteArray), ∃ (w183 : World), Sem.run Tryd.prog (convert 29 9
  (Value.slice (some (Addr.mk k179 0 none)) 1048576 1048576)) w180 = Result.ok (Value.string s182) w183 ∧ ∃ (R184 : List Own), ∃ (Φ185 : PW), Stable Φ185 ∧ Ctx W w183 (R184 ++ R181) Φ185 ∧ ∀
  (k186 : Nat) (w187 : World) (R188 : List Own), Ctx W w187 (Own.blk k186 [Value.string s182] 9 :: R184 ++ R188) Φ185 → Calls Tryd.prog F.journal_Journal_Append #[Value.pointer p38,
  Value.slice (some (Addr.mk k186 0 none)) 1 1] w187 fun (e189 : Ending) (w190 : World) => ∃ (n191 : Int), e189 = Ending.returned (Value.int IntKind.i64 n191) ∧ ∃ (R192 : List Own), ∃ (Φ193 :
  PW), Stable Φ193 ∧ Ctx W w190 (R192 ++ R188) Φ193 ∧ Br (decide (n191 ≠ 6)) (∀ (w194 : World) (R195 : List Own), Ctx W w194 (R192 ++ R195) Φ193 → J (Value.bool false) w194) (∃ (R196 : List
  Own), ∃ (Φ197 : PW), Stable Φ197 ∧ (∀ (w198 : World) (R199 : List Own), Ctx W w198 (R192 ++ R199) Φ193 → Ctx W w198 (R196 ++ R199) Φ197) ∧ I160 R196 Φ197)))) ∧ ∀ (R200 : List Own) (I201 :
  List Nat → World → Prop), Stable I201 → I160 R200 I201 → ∀ (w202 : World) (R203 : List Own), Ctx W w202 (R200 ++ R203) I201 → ∃ (p204 : Option Addr), ∃ (k205 : Nat), ∃ (k206 : Nat), ∃ (w207
  : World), Sem.run Tryd.prog (builtin Builtin.append #[36, 36] 36 #[false, false] #[Value.slice p155 k156 k157, Value.slice bP bN bC]) w202 = Result.ok (Next.value (Value.slice p204 k205
  k206)) w207 ∧ ∃ (R208 : List Own), ∃ (Φ209 : PW), Stable Φ209 ∧ Ctx W w207 (R208 ++ R203) Φ209 ∧ exI fun (I210 : Int → List Own → PW → Nat → Prop) => (∃ (R211 : List Own), ∃ (Φ212 : PW), ∃
  (k213 : Nat), Stable Φ212 ∧ (∀ (w214 : World) (R215 : List Own), Ctx W w214 (R208 ++ R215) Φ209 → Ctx W w214 (R211 ++ R215) Φ212) ∧ I210 0 R211 Φ212 k213) ∧ ∀ (n216 : Int) (R217 : List Own)
  (I218 : List Nat → World → Prop) (k219 : Nat), Stable I218 → I210 n216 R217 I218 k219 → Br (decide (n216 < (↑k205 : Int))) (∃ (R220 : List Own), ∃ (Φ221 : PW), Stable Φ221 ∧ (∀ (w222 :
  World) (R223 : List Own), Ctx W w222 (R217 ++ R223) I218 → Ctx W w222 (R220 ++ R223) Φ221) ∧ (0 ≤ n216 ∧ n216 < (↑k205 : Int)) ∧ ptrK none p204 fun (k224 k225 : Nat) => ∃ (s226 :
  ByteArray), (∀ (w227 : World) (R228 : List Own), Ctx W w227 (R220 ++ R228) Φ221 → ∃ (s229 : ByteArray), w227.cell? (Addr.mk k224 (k225 + n216.toNat) none) = some (Value.string s229) ∧
  Value.string s229 = Value.string s226) ∧ ∀ (w230 : World) (R231 : List Own), Ctx W w230 (R217 ++ R231) I218 → Calls Tryd.prog F.journal_Journal_Get #[Value.pointer p38, Value.int
  IntKind.i64 n216] w230 fun (e232 : Ending) (w233 : World) => ∃ (s234 : ByteArray), e232 = Ending.returned (Value.string s234) ∧ ∃ (R235 : List Own), ∃ (Φ236 : PW), Stable Φ236 ∧ Ctx W w233
  (R235 ++ R231) Φ236 ∧ (∀ (w237 : World) (R238 : List Own), Ctx W w237 (R235 ++ R238) Φ236 → Ctx W w237 (R220 ++ R238) Φ221) ∧ Br (decide (s234 ≠ s226)) (∀ (w239 : World) (R240 : List Own),
  Ctx W w239 (R235 ++ R240) Φ236 → J (Value.bool false) w239) (I64 (n216 + 1) ∧ ∃ (R241 : List Own), ∃ (Φ242 : PW), ∃ (k243 : Nat), Stable Φ242 ∧ (∀ (w244 : World) (R245 : List Own), Ctx W
  w244 (R235 ++ R245) Φ236 → Ctx W w244 (R241 ++ R245) Φ242) ∧ I210 (n216 + 1) R241 Φ242 k243 ∧ k243 < k219)) (Br c4 (∀ (w246 : World) (R247 : List Own), Ctx W w246 (R217 ++ R247) I218 →
  Calls Tryd.prog F.journal_Journal_All #[Value.pointer p38] w246 fun (e248 : Ending) (w249 : World) => ∃ (p250 : Option Addr), ∃ (k251 : Nat), ∃ (k252 : Nat), e248 = Ending.returned
  (Value.slice p250 k251 k252) ∧ ∃ (R253 : List Own), ∃ (Φ254 : PW), Stable Φ254 ∧ Ctx W w249 (R253 ++ R247) Φ254 ∧ ∀ (w255 : World) (R256 : List Own), Ctx W w255 (R253 ++ R256) Φ254 → Calls
  Tryd.prog F.errataref01_SameTexts #[Value.slice p250 k251 k252, Value.slice p204 k205 k206] w255 fun (e257 : Ending) (w258 : World) => ∃ (c259 : Bool), e257 = Ending.returned (Value.bool
  c259) ∧ ∃ (R260 : List Own), ∃ (Φ261 : PW), Stable Φ261 ∧ Ctx W w258 (R260 ++ R256) Φ261 ∧ Br c259 (∀ (w262 : World) (R263 : List Own), Ctx W w262 (R260 ++ R263) Φ261 → Calls Tryd.prog
  F.journal_Journal_All #[Value.pointer p46] w262 fun (e264 : Ending) (w265 : World) => ∃ (p266 : Option Addr), ∃ (k267 : Nat), ∃ (k268 : Nat), e264 = Ending.returned (Value.slice p266 k267
  k268) ∧ ∃ (R269 : List Own), ∃ (Φ270 : PW), Stable Φ270 ∧ Ctx W w265 (R269 ++ R263) Φ270 ∧ ∀ (w271 : World) (R272 : List Own), Ctx W w271 (R269 ++ R272) Φ270 → Calls Tryd.prog
  F.errataref01_SameTexts #[Value.slice p266 k267 k268, Value.slice p204 k205 k206] w271 fun (e273 : Ending) (w274 : World) => ∃ (c275 : Bool), e273 = Ending.returned (Value.bool c275) ∧ ∃
  (R276 : List Own), ∃ (Φ277 : PW), Stable Φ277 ∧ Ctx W w274 (R276 ++ R272) Φ277 ∧ Br c275 (∀ (w278 : World) (R279 : List Own), Ctx W w278 (R276 ++ R279) Φ277 → Calls Tryd.prog
  F.journal_Journal_Get #[Value.pointer p38, Value.int IntKind.i64 (↑k205 : Int)] w278 fun (e280 : Ending) (w281 : World) => ∃ (s282 : ByteArray), e280 = Ending.returned (Value.string s282) ∧
  ∃ (R283 : List Own), ∃ (Φ284 : PW), Stable Φ284 ∧ Ctx W w281 (R283 ++ R279) Φ284 ∧ Br (decide (s282 = ByteArray.mk #[])) (∀ (w285 : World) (R286 : List Own), Ctx W w285 (R283 ++ R286) Φ284
  → Calls Tryd.prog F.journal_Journal_Get #[Value.pointer p38, Value.int IntKind.i64 (-1)] w285 fun (e287 : Ending) (w288 : World) => ∃ (s289 : ByteArray), e287 = Ending.returned
  (Value.string s289) ∧ ∃ (R290 : List Own), ∃ (Φ291 : PW), Stable Φ291 ∧ Ctx W w288 (R290 ++ R286) Φ291 ∧ ∀ (w292 : World) (R293 : List Own), Ctx W w292 (R290 ++ R293) Φ291 → J (Value.bool
  (decide (s289 = ByteArray.mk #[]))) w292) (∀ (w294 : World) (R295 : List Own), Ctx W w294 (R283 ++ R295) Φ284 → J (Value.bool false) w294)) (∀ (w296 : World) (R297 : List Own), Ctx W w296
  (R276 ++ R297) Φ277 → J (Value.bool false) w296)) (∀ (w298 : World) (R299 : List Own), Ctx W w298 (R260 ++ R299) Φ261 → J (Value.bool false) w298)) (∀ (w300 : World) (R301 : List Own), Ctx
  W w300 (R217 ++ R301) I218 → J (Value.bool false) w300))))))))))

theorem Merratalaw06_JournalCuts_run (aP : Option Addr) (aN aC : Nat) (n : Int) (bP : Option Addr) (bN bC : Nat) {W w : World} {R : List Own} {Φ : PW} [Stable Φ] {J : Value → World → Prop} (c : Ctx W w R Φ) (h : Merratalaw06_JournalCuts aP aN aC n bP bN bC W R Φ J) : Calls Tryd.prog F.erratalaw06_JournalCuts #[.slice aP aN aC, .int .i64 n, .slice bP bN bC] w fun e w' => ∃ v, e = .returned v ∧ J v w' :=
  vcFS_sound (H := { keep := some [0, 1, 2, 6, 7, 8, 9, 11, 13, 14, 15, 16, 25, 29, 51, 55, 65, 87, 91, 118, 125, 135], stages := [(28, [.held [(0, true), (1, true), (3, true), (4, true), (5, true), (6, true), (2, false)], .stage [7] none])], split := [2, 9, 17, 22, 30], loops := [(26, [(16, .one (.int .i64))], []), (12, [(13, .one (.int .i64))], [])], cuts := [(16, [], []), (17, [(14, .one (.bool))], []), (22, [(15, .one (.slice))], []), (24, [], [])] }) (by rw [show vcFS Tryd.prog W { keep := some [0, 1, 2, 6, 7, 8, 9, 11, 13, 14, 15, 16, 25, 29, 51, 55, 65, 87, 91, 118, 125, 135], stages := [(28, [.held [(0, true), (1, true), (3, true), (4, true), (5, true), (6, true), (2, false)], .stage [7] none])], split := [2, 9, 17, 22, 30], loops := [(26, [(16, .one (.int .i64))], []), (12, [(13, .one (.int .i64))], [])], cuts := [(16, [], []), (17, [(14, .one (.bool))], []), (22, [(15, .one (.slice))], []), (24, [], [])] } F.erratalaw06_JournalCuts #[.slice aP aN aC, .int .i64 n, .slice bP bN bC] R Φ J = Merratalaw06_JournalCuts aP aN aC n bP bN bC W R Φ J by kernel_rfl]; exact h) c

end Go.Proofs.YtfccagphnfceiaaDoor
end

/-
  The law of appending and cutting: walked.
-/
section
set_option linter.unusedVariables false
set_option linter.unusedSimpArgs false
namespace Go.Proofs.YtfccagphnfceiaaDoor
open Go.Vc

section
variable {W w : World} {S R G : List Own} {Φ : PW}
theorem w_out [Stable Φ] {o : Own} {A B X S G : List Own} (cx : Ctx W w (o :: ((A ++ (B ++ (X ++ S))) ++ G)) Φ) : Ctx W w ((A ++ (B ++ (X ++ (o :: S)))) ++ G) Φ := by
  have e1 : (A ++ (B ++ (X ++ S))) ++ G = (A ++ B ++ X) ++ (S ++ G) := by simp only [List.append_assoc]
  have e2 : (A ++ (B ++ (X ++ (o :: S)))) ++ G = (A ++ B ++ X) ++ (o :: (S ++ G)) := by simp only [List.append_assoc, List.cons_append]
  rw [e1] at cx
  rw [e2]
  exact cx.perm List.perm_middle.symm
theorem w_in [Stable Φ] {o : Own} {A B X S G : List Own} (cx : Ctx W w ((A ++ (B ++ (X ++ (o :: S)))) ++ G) Φ) : Ctx W w (o :: ((A ++ (B ++ (X ++ S))) ++ G)) Φ := by
  have e1 : (A ++ (B ++ (X ++ S))) ++ G = (A ++ B ++ X) ++ (S ++ G) := by simp only [List.append_assoc]
  have e2 : (A ++ (B ++ (X ++ (o :: S)))) ++ G = (A ++ B ++ X) ++ (o :: (S ++ G)) := by simp only [List.append_assoc, List.cons_append]
  rw [e2] at cx
  rw [e1]
  exact cx.perm List.perm_middle
theorem nf_end [Stable Φ] {A B X S G : List Own} (cx : Ctx W w ((A ++ (B ++ (X ++ S))) ++ G) Φ) : Ctx W w S Φ :=
  Ctx.right (S := X) (Ctx.right (S := B) (Ctx.right (S := A) (Ctx.left cx)))
/-- append([]string{}, l...) -/
theorem clone_strs [Stable Φ] {g : Nat} {q : Option Addr} {c2 : Nat} {l : List ByteArray} (hsl : ∀ M w, Φ M w → Sl M w q l) (hl : l.length < 100000000) (cx : Ctx W w (.blk g [] 9 :: S) Φ) :
    ∃ p' cap' w', Sem.run Tryd.prog (builtin Builtin.append #[36, 36] 36 #[false, false] #[.slice (some ⟨g, 0, none⟩) 0 0, .slice q l.length c2]) w = .ok (.value (.slice p' l.length cap')) w' ∧ Ctx W w' (.buf p' l.length cap' (strC l) 9 1 :: S) Φ := by
  obtain ⟨p', cap', w', cs, hr, c'⟩ := Ctx.cloned (P := Tryd.prog) (ts := 36) (ty := 36) (kb := #[false, false]) (bytes := 16) (c2 := c2) cx (by kernel_rfl) str_oneJ hsl hl (by omega)
  have e := strs_elems c'.phi.2
  subst e
  exact ⟨p', cap', w', hr, c'.weak fun _ _ h => h.1⟩
/-- append(want, l...), whether or not l has elements -/
theorem grow_strs [Stable Φ] {p : Option Addr} {cap : Nat} {want l : List ByteArray} {q : Option Addr} {c2 : Nat} (hsl : ∀ M w, Φ M w → Sl M w q l) (hl : want.length + l.length < 100000000) (cx : Ctx W w (.buf p want.length cap (strC want) 9 1 :: S) Φ) :
    ∃ p' cap' w', Sem.run Tryd.prog (builtin Builtin.append #[36, 36] 36 #[false, false] #[.slice p want.length cap, .slice q l.length c2]) w = .ok (.value (.slice p' (want ++ l).length cap')) w' ∧ Ctx W w' (.buf p' (want ++ l).length cap' (strC (want ++ l)) 9 1 :: S) Φ := by
  by_cases h0 : l = []
  · subst h0
    obtain ⟨i, z, e1, e2, e3, e4, e5, e6⟩ := appB_out (P := Tryd.prog) (ts := 36) (t := 9) (size := 1) (bytes := 16) (by kernel_rfl)
    refine ⟨p, cap, w, ?_, by rw [List.append_nil]; exact cx⟩
    rw [List.append_nil]
    exact run_app (cx.append0 0 rfl e1 e2 q c2)
  · obtain ⟨p', cap', w', news, hr, _, c'⟩ := cx.appSl (P := Tryd.prog) (ts := 36) (ty := 36) (kb := #[false, false]) (bytes := 16) (c2 := c2) (by kernel_rfl) str_oneJ hsl (List.length_pos_iff.2 h0) hl (by omega)
    have e := strs_elems c'.phi.2
    subst e
    rw [← List.length_append] at hr c'
    refine ⟨p', cap', w', hr, ?_⟩
    rw [show strC (want ++ l) = strC want ++ strC l from List.map_append]
    exact c'.weak fun _ _ h => h.1
def longS (n : Nat) : ByteArray := bs (List.replicate n 0)
theorem long_form {n : Nat} (hn : n ≤ 10000000) : n < (formL [longS n]).length ∧ (formL [longS n]).length ≤ n + 22 := by
  have hs : (longS n).size = n := by unfold longS; rw [bs_size, List.length_replicate]
  have h := textB_size (s := longS n) (by omega)
  have e : (formL [longS n]).length = (textB (longS n)).size := by rw [formL_cons, List.length_append, list_size]; rfl
  omega
theorem long_conv [Stable Φ] {g n : Nat} (cx : Ctx W w (.blk g (List.replicate n (Value.int .u8 0)) 5 :: S) Φ) : Sem.run Tryd.prog (convert 29 9 (.slice (some ⟨g, 0, none⟩) n n)) w = .ok (.string (longS n)) w := by
  have hb : Lib.Bytes w g 0 (longS n) := fun i hi => by
    have hi' : i < n := by
      have hs : (longS n).size = n := by unfold longS; rw [bs_size, List.length_replicate]
      omega
    have := cx.get 0 rfl (b := g) (i := i) (v := .int .u8 0) (by rw [List.getElem?_replicate, if_pos hi'])
    rw [Nat.zero_add, this]
    have e : (longS n)[i] = 0 := by
      show (List.replicate n (0 : UInt8)).toArray[i]'(by simpa using hi') = 0
      simp
    rw [e]; rfl
  have hc := Lib.run_convert_whole (P := Tryd.prog) w 29 5 9 Tryd.underlying29 Tryd.underlying5 Tryd.underlying9 g 0 _ hb n
  have hs : (longS n).size = n := by unfold longS; rw [bs_size, List.length_replicate]
  rw [hs] at hc
  exact hc
end
end Go.Proofs.YtfccagphnfceiaaDoor
end

/-
  The law of appending and cutting: walked.
-/
section
set_option linter.unusedVariables false
set_option linter.unusedSimpArgs false
namespace Go.Proofs.YtfccagphnfceiaaDoor
open Go.Vc

section
variable {W w : World} {S R G : List Own} {Φ : PW}
/-- what the law holds of its two journals -/
abbrev nf (q : DkP) (d : DsS) (x y : JoP) (j k : JouS) (R : List Own) : List Own := JoO x q j ++ (JoO y q k ++ (dkL q d ++ R))
set_option maxHeartbeats 1000000 in
theorem Cuts_in [Stable Φ] (hi0 : JI Φ) {ap bp : Option Addr} {ac bc : Nat} {a b : List ByteArray} {n : Int} (ha : ∀ M w, Φ M w → Sl M w ap a) (hb : ∀ M w, Φ M w → Sl M w bp b) (hla : a.length ≤ ac) (hac : a.length ≤ 9223372036854775807) (hbc : b.length ≤ 9223372036854775807) :
    GivesIn Φ Tryd.prog F.erratalaw06_JournalCuts #[.slice ap a.length ac, .int .i64 n, .slice bp b.length bc] (.bool true) := by
  refine gives_in (Merratalaw06_JournalCuts_run ap a.length ac n bp b.length bc) fun W R => fun w G cx => (small_in hi0).use cx fun w cx => ⟨true, rfl, R, Φ, inferInstance, cx, fun w G cx => (texts_in ha hac).use cx fun w cx => ⟨textsB a, rfl, R, Φ, inferInstance, cx, Br.intro (fun h => fun w G cx => ⟨rfl, cx.left⟩) (fun hta => fun w G cx => (texts_in hb hbc).use cx fun w cx => ⟨textsB b, rfl, R, Φ, inferInstance, cx, Br.intro (fun h => fun w G cx => ⟨rfl, cx.left⟩) (fun htb => fun w G cx => DNew_use cx fun q w hq cx => ?_)⟩)⟩⟩
  have hta : textsB a = true := by simpa using hta
  have htb : textsB b = true := by simpa using htb
  have fa := texts_form hta
  have fb := texts_form htb
  have la := (textsB_yes hta).2
  have lb := (textsB_yes htb).2
  have hi : JI (fun M w => Φ M w ∧ dkF q dsNew M w) := hi0.weak fun _ _ h => h.1
  have hkk : DkK (fun M w => Φ M w ∧ dkF q dsNew M w) q dsNew := ⟨Nat.zero_le _, fun M w h => h.2⟩
  refine ⟨_, rfl, dkL q dsNew ++ R, fun M w => Φ M w ∧ dkF q dsNew M w, inferInstance, cx.re (List.append_assoc _ _ _).symm, Br.intro (fun h => by cases h) (fun _ => fun w G cx => ?_)⟩
  -- both journals
  refine FOpen_use hi hq hkk dsNew_h ⟨by decide, by decide⟩ (new_fut 0) (cx.re (List.append_assoc _ _ _)) fun u x d j w hmj hfj hlj hbj hk1 ho1 cx => ?_
  have hlj : j.list = [] := hlj
  refine ⟨_, _, rfl, JoO x q j ++ (dkL (q.mv u) d ++ R), _, inferInstance, j_out cx, fun w G cx => ?_⟩
  have hf2 : JFut d 2 fun l => l = [] := (new_fut 2).ev ((ho1 _).resolve_right (by omega)) ((ho1 _).resolve_right (by omega))
  refine FOpen_use (q := q.mv u) (S := JoO x q j ++ (R ++ G)) hi hmj.dq hmj.kk hfj.fine ⟨by decide, by decide⟩ hf2 (jd_in cx) fun u2 y d2 k w hmk hfk hlk hbk hk2 ho2 cx => ?_
  have hlk : k.list = [] := hlk
  have T0 : TwoJ (fun M w => Φ M w ∧ dkF q dsNew M w) ((q.mv u).mv u2) d2 x y j k := ⟨⟨hmk.dq, hmj.kk.of hk2 u2, hmj.sb⟩, hmk, ⟨live_ev hfj.live ((ho2 _).resolve_right (by omega)) ((ho2 _).resolve_right (by omega)), hfj.ok, hfk.fine⟩, hfk, hbj, hbk⟩
  refine ⟨_, _, rfl, nf (q.mv u2) d2 x y j k R, _, inferInstance, two_ko cx, Br.intro (fun h => by cases h) (fun _ => Br.intro (fun h => by cases h) (fun _ => fun w G cx => ?_))⟩
  clear ho1 ho2 hk1 hk2 hf2 hmj hmk hfj hfk hbj hbk
  obtain ⟨Ψ, hΨ⟩ : ∃ Ψ : PW, (fun M w => Φ M w ∧ dkF q dsNew M w) = Ψ := ⟨_, rfl⟩
  have stΨ : Stable Ψ := by rw [← hΨ]; infer_instance
  have hΦ : ∀ M w, Ψ M w → Φ M w := by rw [← hΨ]; exact fun _ _ h => h.1
  rw [hΨ] at hi T0
  have cx : Ctx W w (nf ((q.mv u).mv u2) d2 x y j k R ++ G) Ψ := by rw [← hΨ]; exact cx
  clear hkk hΨ
  generalize (q.mv u).mv u2 = q at T0 cx
  have ha : ∀ M w, Ψ M w → Sl M w ap a := fun M w h => ha M w (hΦ M w h)
  have hb : ∀ M w, Ψ M w → Sl M w bp b := fun M w h => hb M w (hΦ M w h)
  have fin : ∀ {q d x y j k S G w}, Ctx W w (nf q d x y j k (S ++ R) ++ G) Ψ → Ctx W w R Φ := fun {q d x y j k S G w} cx => (Ctx.right (S := S) (nf_end cx)).weak hΦ
  have z0 : (formL []).length = 0 := rfl
  have hap := (ha _ _ cx.phi).there
  -- all at once
  refine FAppend_use (S := JoO y q k ++ (R ++ G)) hi T0.mj T0.fj ha (by rw [hlj, z0]; omega) (two_j cx) fun u1 p c o d1 j1 w hm1 hf1 hl1 hb1 hk1 ho1 cx => ?_
  have T1 := two_jn T0 hm1 hf1 hb1 hk1 ho1
  rw [hlj, List.nil_append] at hl1
  refine ⟨0, rfl, nf (q.mv u1) d1 (x.mv p c o) y j1 k R, Ψ, inferInstance, two_jo cx, Br.intro (fun h => absurd rfl (of_decide_eq_true h)) (fun _ => ?_)⟩
  clear hm1 hf1 hb1 hk1 ho1 T0
  generalize hx1 : x.mv p c o = x1 at T1
  have hxj : x1.jb = x.jb := by rw [← hx1]; rfl
  -- one after the other
  refine exI_mk (fun R' Φ' => ∃ q' d' y' k', R' = nf q' d' x1 y' j1 k' R ∧ Φ' = Ψ ∧ TwoJ Ψ q' d' x1 y' j1 k' ∧ k'.list = a ∧ y'.jb = y.jb) ⟨?_, ?_⟩
  · refine exI_mk (fun n R' Φ' m => ∃ (i : Nat) (q' : DkP) (d' : DsS) (y' : JoP) (k' : JouS), n = i ∧ i + m = a.length ∧ R' = nf q' d' x1 y' j1 k' R ∧ Φ' = Ψ ∧ TwoJ Ψ q' d' x1 y' j1 k' ∧ k'.list = a.take i ∧ y'.jb = y.jb) ⟨⟨_, Ψ, a.length, inferInstance, fun w G cx => cx, 0, q.mv u1, d1, y, k, rfl, by omega, by rw [← hx1], rfl, T1, by rw [hlk, List.take_zero], rfl⟩, ?_⟩
    rintro n1 R1 Ψ m st ⟨i, q', d', y', k', rfl, him, rfl, rfl, T, hl, hy⟩
    refine Br.intro (fun hlt => ?_) (fun hge => ?_)
    · have hlt : i < a.length := by have := of_decide_eq_true hlt; omega
      obtain ⟨m, rfl⟩ : ∃ z, m = z + 1 := ⟨m - 1, by omega⟩
      obtain ⟨g, o2, hg⟩ := hap (by omega)
      refine ⟨⟨by omega, by omega⟩, ptrK_intro g o2 hg fun w G cx => ⟨a[i], ?_, fun b1 w G cx => ?_⟩⟩
      · have := ha _ _ cx.phi
        rw [hg] at this
        rw [Int.toNat_natCast]
        exact sl_str this hlt
      have s1 : ∀ z ∈ [a[i]], z.size ≤ 200 := fun z hz => by rw [List.mem_singleton.1 hz]; exact (textsB_yes hta).1 _ (List.getElem_mem hlt)
      have c1 := froz (S := nf q' d' x1 y' j1 k' R ++ G) (fun z hz => Nat.le_trans (s1 z hz) (by unfold maxLen; omega)) cx
      have hstep : a.take (i + 1) = a.take i ++ [a[i]] := List.take_succ_eq_append_getElem hlt
      have hle : (formL (a.take i)).length + (formL [a[i]]).length ≤ 1048576 := by
        have e : formL a = formL (a.take (i + 1)) ++ formL (a.drop (i + 1)) := by rw [← formL_app, List.take_append_drop]
        rw [hstep, formL_app] at e
        have := congrArg List.length e
        rw [List.length_append, List.length_append] at this
        omega
      rw [← hy]
      refine FAppend_use (lp := some ⟨b1, 0, none⟩) (lc := 1) (l := [a[i]]) (S := JoO x1 q' j1 ++ (R ++ G)) (hi.weak fun _ _ h => h.1) (T.mm.weak fun _ _ h => h.1) T.fk (fun M w h => h.2) (by rw [hl]; exact hle) (two_k c1) fun u1 p c o d2 k2 w hm1 hf1 hl1 hb1 hk1 ho1 cx => ?_
      have T2 := two_kn T ⟨hm1.dq, T.mm.kk.of hk1 u1, hm1.sb⟩ hf1 hb1 hk1 ho1
      refine ⟨0, rfl, nf (q'.mv u1) d2 x1 (y'.mv p c o) j1 k2 R, Ψ, inferInstance, (two_ko cx).weak fun _ _ h => h.1, Br.intro (fun h => absurd rfl (of_decide_eq_true h)) (fun _ => ⟨by unfold I64; omega, _, Ψ, m, inferInstance, fun w G cx => cx, ⟨i + 1, q'.mv u1, d2, y'.mv p c o, k2, by omega, by omega, rfl, rfl, T2, by rw [hl1, hl, hstep], rfl⟩, Nat.lt_succ_self _⟩)⟩
    · have hge : i = a.length := by have := of_decide_eq_false hge; omega
      subst hge
      rw [List.take_length] at hl
      exact ⟨_, Ψ, inferInstance, fun w G cx => cx, q', d', y', k', rfl, rfl, T, hl, hy⟩
  rintro R1 Ψ2 st ⟨q', d', y', k', rfl, rfl, T, hlk, hy⟩
  clear T1
  -- the cut
  obtain ⟨inn, hin⟩ : ∃ v : Bool, v = decide (0 ≤ n ∧ n ≤ (a.length : Int)) := ⟨_, rfl⟩
  refine exI_mk (fun v R' Φ' => v = inn ∧ R' = nf q' d' x1 y' j1 k' R ∧ Φ' = Ψ2) ⟨fun w G cx => ⟨_, Ψ2, inferInstance, fun w G cx => cx, ?_, rfl, rfl⟩, ?_⟩
  · rw [hin, Bool.decide_and]
  rintro v R1 Ψ st ⟨rfl, rfl, rfl⟩
  have hin2 : ∀ e : Int, e = (if 0 ≤ n ∧ n ≤ (a.length : Int) then 0 else 1) → (decide (e = 0) != v) = false := fun e he => by
    rw [he, hin]
    by_cases h : 0 ≤ n ∧ n ≤ (a.length : Int)
    · rw [if_pos h, decide_eq_true h]; rfl
    · rw [if_neg h, decide_eq_false h]; rfl
  obtain ⟨wl, hwl⟩ : ∃ wl : List ByteArray, wl = if 0 ≤ n ∧ n ≤ (a.length : Int) then a.take n.toNat else a := ⟨_, rfl⟩
  have fw : (formL wl).length ≤ 1856 := by
    rw [hwl]
    split
    · have e : formL a = formL (a.take n.toNat) ++ formL (a.drop n.toNat) := by rw [← formL_app, List.take_append_drop]
      rw [e, List.length_append] at fa
      omega
    · exact fa
  have lw : wl.length ≤ 8 := by
    rw [hwl]
    split
    · rw [List.length_take]; omega
    · exact la
  intro w G cx
  rw [← hxj]
  refine FCut_use (n := n) (S := JoO y' q' k' ++ (R ++ G)) hi T.mj T.fj (two_j cx) fun u1 p c o d2 j2 e w hm2 hf2 hl2 he2 hb2 hk2 ho2 cx => ?_
  have T2 := two_jn T hm2 hf2 hb2 hk2 ho2
  rw [hl1] at hl2 he2
  rw [← hwl] at hl2
  refine ⟨e, rfl, nf (q'.mv u1) d2 (x1.mv p c o) y' j2 k' R, Ψ, inferInstance, two_jo cx, Br.intro (fun h => by rw [hin2 e he2] at h; cases h) (fun _ => fun w G cx => ?_)⟩
  clear hm2 hf2 hb2 hk2 ho2
  rw [← hy]
  refine FCut_use (n := n) (q := q'.mv u1) (S := JoO (x1.mv p c o) q' j2 ++ (R ++ G)) hi T2.mm T2.fk (two_k cx) fun u2 p3 c3 o3 d3 k3 e3 w hm3 hf3 hl3 he3 hb3 hk3 ho3 cx => ?_
  have T3 := two_kn T2 hm3 hf3 hb3 hk3 ho3
  rw [hlk] at hl3 he3
  rw [← hwl] at hl3
  refine ⟨e3, rfl, nf ((q'.mv u1).mv u2) d3 (x1.mv p c o) (y'.mv p3 c3 o3) j2 k3 R, Ψ, inferInstance, two_ko cx, Br.intro (fun h => by rw [hin2 e3 he3] at h; cases h) (fun _ => fun g w G cx => ?_)⟩
  clear hm3 hf3 hb3 hk3 ho3 T2 T
  have hx2 : (x1.mv p c o).jb = x1.jb := rfl
  have hy3 : (y'.mv p3 c3 o3).jb = y'.jb := rfl
  rw [← hx2, ← hy3]
  generalize x1.mv p c o = x at T3 cx
  generalize y'.mv p3 c3 o3 = y at T3 cx
  have cx : Ctx W w (.blk g [] 9 :: (nf ((q'.mv u1).mv u2) d3 x y j2 k3 R ++ G)) Ψ := cx
  generalize (q'.mv u1).mv u2 = q at T3 cx
  -- what is wanted
  obtain ⟨p4, c4, w4, hr4, cx4⟩ := clone_strs (c2 := ac) ha (by omega) cx
  refine ⟨p4, _, c4, w4, hr4, nf q d3 x y j2 k3 (.buf p4 a.length c4 (strC a) 9 1 :: R), Ψ, inferInstance, w_out cx4, ?_⟩
  refine exI_mk (fun p k c R' Φ' => k = wl.length ∧ R' = nf q d3 x y j2 k3 (.buf p wl.length c (strC wl) 9 1 :: R) ∧ Φ' = Ψ) ⟨Br.intro (fun hv => fun g5 => ?_) (fun hv => ?_), ?_⟩
  · have hyes : 0 ≤ n ∧ n ≤ (a.length : Int) := by
      by_cases h : 0 ≤ n ∧ n ≤ (a.length : Int)
      · exact h
      · rw [hin, decide_eq_false h] at hv; cases hv
    rw [if_pos hyes] at hwl
    have hmin : (min (max n 0) (a.length : Int)).toNat = wl.length := by rw [hwl, List.length_take]; omega
    refine ⟨⟨by omega, by omega⟩, fun w G cx => ?_⟩
    rw [sub_z, hmin]
    obtain ⟨p5, c5, w5, hr5, cx5⟩ := clone_strs (c2 := ac) (q := ap) (l := wl) (fun M w h => by rw [hwl]; exact sl_take (ha M w h) _) (by omega) cx
    refine ⟨p5, _, c5, w5, hr5, nf q d3 x y j2 k3 (.buf p5 wl.length c5 (strC wl) 9 1 :: .buf p4 a.length c4 (strC a) 9 1 :: R), Ψ, inferInstance, w_out cx5, _, Ψ, inferInstance, fun w G cx => ?_, rfl, rfl, rfl⟩
    exact cx.sub (sub1 ((List.Sublist.refl _).append ((List.Sublist.refl _).append ((List.Sublist.refl _).append (.cons_cons _ (.cons _ (List.Sublist.refl _)))))))
  · have hno : ¬ (0 ≤ n ∧ n ≤ (a.length : Int)) := fun h => by rw [hin, decide_eq_true h] at hv; cases hv
    rw [if_neg hno] at hwl
    refine ⟨_, Ψ, inferInstance, fun w G cx => cx, ?_, ?_, rfl⟩
    · rw [hwl]
    · rw [hwl]
  rintro pw kw cw R1 Ψ st ⟨rfl, rfl, rfl⟩
  clear hin hwl hin2
  have hf12 : (formL wl).length + (formL b).length ≤ 4000 := by omega
  refine exI_mk (fun R' Φ' => ∃ q d x' y' j k, R' = nf q d x' y' j k (.buf pw wl.length cw (strC wl) 9 1 :: R) ∧ Φ' = Ψ ∧ TwoJ Ψ q d x' y' j k ∧ j.list = wl ++ b ∧ k.list = wl ++ b ∧ x'.jb = x.jb ∧ y'.jb = y.jb) ⟨fun w G cx => ?_, ?_⟩
  · refine FAppend_use (S := JoO y q k3 ++ ((.buf pw wl.length cw (strC wl) 9 1 :: R) ++ G)) hi T3.mj T3.fj hb (by rw [hl2]; omega) (two_j cx) fun u1 p c o d4 j4 w hm4 hf4 hl4 hb4 hk4 ho4 cx => ?_
    have T4 := two_jn T3 hm4 hf4 hb4 hk4 ho4
    rw [hl2] at hl4
    refine ⟨0, rfl, nf (q.mv u1) d4 (x.mv p c o) y j4 k3 (.buf pw wl.length cw (strC wl) 9 1 :: R), Ψ, inferInstance, two_jo cx, Br.intro (fun h => absurd rfl (of_decide_eq_true h)) (fun _ => fun w G cx => ?_)⟩
    refine FAppend_use (q := q.mv u1) (S := JoO (x.mv p c o) q j4 ++ ((.buf pw wl.length cw (strC wl) 9 1 :: R) ++ G)) hi T4.mm T4.fk hb (by rw [hl3]; omega) (two_k cx) fun u2 p2 c2 o2 d5 k5 w hm5 hf5 hl5 hb5 hk5 ho5 cx => ?_
    have T5 := two_kn T4 hm5 hf5 hb5 hk5 ho5
    rw [hl3] at hl5
    refine ⟨0, rfl, nf ((q.mv u1).mv u2) d5 (x.mv p c o) (y.mv p2 c2 o2) j4 k5 (.buf pw wl.length cw (strC wl) 9 1 :: R), Ψ, inferInstance, two_ko cx, Br.intro (fun h => absurd rfl (of_decide_eq_true h)) (fun _ => ⟨by omega, fun g w G cx => ?_⟩)⟩
    clear hm4 hf4 hb4 hk4 ho4 hm5 hf5 hb5 hk5 ho5 T4
    refine ⟨_, w, long_conv cx, nf ((q.mv u1).mv u2) d5 (x.mv p c o) (y.mv p2 c2 o2) j4 k5 (.buf pw wl.length cw (strC wl) 9 1 :: R), Ψ, inferInstance, cx.drop1, fun g2 w G cx => ?_⟩
    have lf := long_form (n := 1048576) (by omega)
    have c7 := froz (l := [longS 1048576]) (S := nf ((q.mv u1).mv u2) d5 (x.mv p c o) (y.mv p2 c2 o2) j4 k5 (.buf pw wl.length cw (strC wl) 9 1 :: R) ++ G) (fun z hz => by
      have := formL_size hz
      unfold maxLen; omega) cx
    refine FFull_use (q := (q.mv u1).mv u2) (x := x.mv p c o) (lp := some ⟨g2, 0, none⟩) (lc := 1) (l := [longS 1048576]) (S := JoO (y.mv p2 c2 o2) q k5 ++ ((.buf pw wl.length cw (strC wl) 9 1 :: R) ++ G)) (hi.weak fun _ _ h => h.1) (T5.mj.weak fun _ _ h => h.1) T5.fj (fun M w h => h.2) ⟨lf.1, by omega⟩ (two_j c7) fun u3 p3 c3 o3 w hm6 cx => ?_
    have T6 : TwoJ Ψ (((q.mv u1).mv u2).mv u3) d5 ((x.mv p c o).mv p3 c3 o3) (y.mv p2 c2 o2) j4 k5 := ⟨⟨hm6.dq, T5.mj.kk.of rfl u3, hm6.sb⟩, ⟨hm6.dq, T5.mm.kk.of rfl u3, T5.mm.sb⟩, T5.fj, T5.fk, T5.bj, T5.bk⟩
    exact ⟨6, rfl, nf (((q.mv u1).mv u2).mv u3) d5 ((x.mv p c o).mv p3 c3 o3) (y.mv p2 c2 o2) j4 k5 (.buf pw wl.length cw (strC wl) 9 1 :: R), Ψ, inferInstance, (two_jo cx).weak fun _ _ h => h.1, Br.intro (fun h => absurd rfl (of_decide_eq_true h)) (fun _ => ⟨_, Ψ, inferInstance, fun w G cx => cx, _, d5, _, _, j4, k5, rfl, rfl, T6, hl4, hl5, rfl, rfl⟩)⟩
  rintro R1 Ψ2 st ⟨q', d', x', y', j, k, rfl, rfl, T, hlj, hlk, hx', hy'⟩
  rw [← hx', ← hy']
  -- what is wanted, whole
  intro w G cx
  obtain ⟨p6, c6, w6, hr6, cx6⟩ := grow_strs (c2 := bc) hb (by omega) (w_in cx)
  obtain ⟨c7, s7, _⟩ := cx6.freeze (elems_strJ (l := wl ++ b) fun z hz => by
    have h1 := formL_size hz
    rw [formL_app, List.length_append] at h1
    unfold maxLen; omega)
  have hpt := s7.there
  have c8 := c7.add (Ψ := fun M w => Sl M w p6 (wl ++ b)) s7
  generalize hws : wl ++ b = ws at *
  have lws : ws.length ≤ 16 := by rw [← hws, List.length_append]; omega
  have lj := live_len T.fj.live
  have lk := live_len T.fk.live
  refine ⟨p6, _, c6, w6, hr6, nf q' d' x' y' j k R, fun M w => Ψ2 M w ∧ Sl M w p6 ws, inferInstance, c8, ?_⟩
  clear c8 c7 cx6 s7 cx hr6
  refine exI_mk (fun n R' Φ' m => ∃ i : Nat, n = i ∧ i + m = ws.length ∧ R' = nf q' d' x' y' j k R ∧ Φ' = fun M w => Ψ2 M w ∧ Sl M w p6 ws) ⟨⟨_, _, ws.length, inferInstance, fun w G cx => cx, 0, rfl, by omega, rfl, rfl⟩, ?_⟩
  rintro n1 R1 Φ1 m st ⟨i, rfl, him, rfl, rfl⟩
  refine Br.intro (fun hlt => ?_) (fun hge => Br.intro (fun _ => fun w G cx => ?_) (fun h => by cases h))
  · have hlt : i < ws.length := by have := of_decide_eq_true hlt; omega
    obtain ⟨m, rfl⟩ : ∃ z, m = z + 1 := ⟨m - 1, by omega⟩
    obtain ⟨g, o2, hg⟩ := hpt (by omega)
    refine ⟨nf q' d' x' y' j k R, fun M w => Ψ2 M w ∧ Sl M w p6 ws, inferInstance, fun w G cx => cx, ⟨by omega, by omega⟩, ptrK_intro g o2 hg ⟨ws[i], fun w G cx => ⟨ws[i], ?_, rfl⟩, fun w G cx => ?_⟩⟩
    · have := cx.phi.2
      rw [hg] at this
      rw [Int.toNat_natCast]
      exact sl_str this hlt
    · refine JGet_use (q := q') (S := (JoO y' q' k ++ (dkL q' d' ++ R)) ++ G) T.mj.sb (cx.re (List.append_assoc _ _ _)) fun w cx => ?_
      have e : getJ j.list (i : Int) = ws[i] := by
        unfold getJ
        rw [hlj, if_neg (by omega), Int.toNat_natCast, List.getD_eq_getElem?_getD, List.getElem?_eq_getElem hlt]
        rfl
      rw [e]
      exact ⟨_, rfl, nf q' d' x' y' j k R, _, inferInstance, cx.re (List.append_assoc _ _ _).symm, fun w G cx => cx, Br.intro (fun h => absurd rfl (of_decide_eq_true h)) (fun _ => ⟨by unfold I64; omega, _, _, m, inferInstance, fun w G cx => cx, ⟨i + 1, by omega, by omega, rfl, rfl⟩, Nat.lt_succ_self _⟩)⟩
  · have hsj : ∀ z ∈ j.list, z.size ≤ maxLen := fun z hz => Nat.le_trans (lj.2.2 z hz) (by unfold maxLen; omega)
    have hsk : ∀ z ∈ k.list, z.size ≤ maxLen := fun z hz => Nat.le_trans (lk.2.2 z hz) (by unfold maxLen; omega)
    refine All_use (q := q') (S := (JoO y' q' k ++ (dkL q' d' ++ R)) ++ G) T.mj.sb (by omega) (cx.re (List.append_assoc _ _ _)) fun g1 w cx => ?_
    have c1 := froz (S := nf q' d' x' y' j k R ++ G) hsj (cx.re (congrArg (_ :: ·) (List.append_assoc _ _ _).symm))
    refine ⟨_, _, _, rfl, nf q' d' x' y' j k R, _, inferInstance, c1, fun w G cx => ?_⟩
    refine (Same_in (fun M w h => h.2) (fun M w h => h.1.2) (by omega)).use cx fun w cx => ?_
    rw [hlj, decide_eq_true (rfl : ws = ws)]
    refine ⟨true, rfl, nf q' d' x' y' j k R, _, inferInstance, cx.weak fun _ _ h => h.1, Br.intro (fun _ => fun w G cx => ?_) (fun h => by cases h)⟩
    refine All_use (q := q') (S := JoO x' q' j ++ ((dkL q' d' ++ R) ++ G)) T.mm.sb (by omega) (jd_in cx) fun g2 w cx => ?_
    have c2 := jd_out (froz hsk cx)
    refine ⟨_, _, _, rfl, nf q' d' x' y' j k R, _, inferInstance, c2, fun w G cx => ?_⟩
    refine (Same_in (fun M w h => h.2) (fun M w h => h.1.2) (by omega)).use cx fun w cx => ?_
    rw [hlk, decide_eq_true (rfl : ws = ws)]
    refine ⟨true, rfl, nf q' d' x' y' j k R, _, inferInstance, cx.weak fun _ _ h => h.1, Br.intro (fun _ => fun w G cx => ?_) (fun h => by cases h)⟩
    have e1 : getJ j.list (ws.length : Int) = ByteArray.mk #[] := by unfold getJ; rw [hlj, if_pos (.inr (by omega))]
    have e2 : getJ j.list (-1) = ByteArray.mk #[] := by unfold getJ; rw [if_pos (.inl (by omega))]
    refine JGet_use (q := q') (S := (JoO y' q' k ++ (dkL q' d' ++ R)) ++ G) T.mj.sb (cx.re (List.append_assoc _ _ _)) fun w cx => ?_
    rw [e1]
    refine ⟨_, rfl, nf q' d' x' y' j k R, _, inferInstance, cx.re (List.append_assoc _ _ _).symm, Br.intro (fun _ => fun w G cx => ?_) (fun h => absurd rfl (of_decide_eq_false h))⟩
    refine JGet_use (q := q') (S := (JoO y' q' k ++ (dkL q' d' ++ R)) ++ G) T.mj.sb (cx.re (List.append_assoc _ _ _)) fun w cx => ?_
    rw [e2]
    refine ⟨_, rfl, nf q' d' x' y' j k R, _, inferInstance, cx.re (List.append_assoc _ _ _).symm, fun w G cx => ⟨?_, ?_⟩⟩
    · rw [decide_eq_true (rfl : ByteArray.mk #[] = ByteArray.mk #[])]
    · exact (nf_end cx).weak fun M w h => hΦ M w h.1
end
end Go.Proofs.YtfccagphnfceiaaDoor
end

/-
  From what a row lists as laid to the facts of the walk.
-/
section
set_option linter.unusedVariables false
set_option linter.unusedSimpArgs false
namespace Go.Proofs.YtfccagphnfceiaaDoor
open Go.Vc Go.RowKit


theorem la_row (u : TypeId) (h : Tryd.prog.typeName? 3 u = some "*errors.errorString") : u = 140 :=
  typeName_ptr_named (nm := "errors.errorString") (by rw [show "*" ++ "errors.errorString" = "*errors.errorString" by decide]; kernel_rfl) (by kernel_rfl) (by decide) u (by rw [show "*" ++ "errors.errorString" = "*errors.errorString" by decide]; exact h)

theorem la_err {n : String} {text : List UInt8} {r : List (String × DataW Unit)} {W : World} {g : Nat} (h : laidMet Tryd.prog ((n, .iface "*errors.errorString" (.ptr (.agg [.lit (.string text)]))) :: r) W)
    (hg : Tryd.prog.globalNamed n = some g) (ht : (Tryd.prog.globals[g]?).map (·.type) = some 92) : ErrAt g [] W := by
  obtain ⟨a, s, hv, _⟩ := laid_sentinel h hg ht Tryd.underlying92 la_row Tryd.underlying140 Tryd.underlying142 rfl rfl Tryd.underlying9 (by kernel_rfl) (by kernel_rfl)
  exact ⟨by simp, _, by have h0 := World.var?_cell hg hv 0; simpa using h0, .inr ⟨_, _, rfl⟩⟩

abbrev LaidI : PW := fun M w => NumI M w ∧ OffI M w
theorem la_num {W : World} (h : laidMetH Tryd.prog Rows.journalReadsRow.laid W) : LaidI [] W := by
  rw [MakeChecks.laidMetH_plain Tryd.prog Rows.journalReadsRow.laid W (by kernel_rfl)] at h
  have h2 := h.tail.tail
  exact ⟨⟨Tab.start (Lib.tabIs_of_head (k := .u64) (zs := Lib.pow10Tab) (g := 1) (t := 127) (e := 110) (n := 20) (by kernel_rfl) (by kernel_rfl) (by kernel_rfl) (by kernel_rfl) (by kernel_rfl) (by kernel_rfl) h2),
    la_err h2.tail.tail.tail (by kernel_rfl) (by kernel_rfl), la_err h2.tail.tail (by kernel_rfl) (by kernel_rfl)⟩,
    Tab.start (Lib.tabIs_of_head (k := .i64) (zs := [0, 64, 131072]) (g := 0) (t := 87) (e := 3) (n := 3) (by kernel_rfl) (by kernel_rfl) (by kernel_rfl) (by kernel_rfl) (by kernel_rfl) (by kernel_rfl) h2.tail)⟩

end Go.Proofs.YtfccagphnfceiaaDoor
end

section
set_option linter.unusedVariables false
set_option linter.unusedSimpArgs false
namespace Go.Proofs.YtfccagphnfceiaaDoor
open Go.ChangeShapes Go.WideShapes Go.ChangeAt Go.RowKit Go.Vc


theorem df_own : ownKnob Tryd.prog.godebug = none := by kernel_rfl
theorem df_laid : laidOutB Tryd.prog = true := by kernel_rfl

theorem trodAll_n {H : Type} {enc : TypeId × Value → H} {P : Program} {w : World} {base : Nat} {spare : Nat → Bool} {held : Bool} {t0 t1 t2 : TypeId} {args : Array Value} {ds : List (DataW H)} {ps : List MemPlace} (h : DataW.TrodAll enc P w base spare held [t0, t1, t2] args.toList ds ps) :
    ∃ v0 v1 v2 d0 d1 d2 p0 p1 p2, args = #[v0, v1, v2] ∧ ds = [d0, d1, d2] ∧ ps = p0 ++ p1 ++ p2 ∧ DataW.Trod enc P w base spare held t0 v0 d0 p0 ∧ DataW.Trod enc P w base spare held t1 v1 d1 p1 ∧ DataW.Trod enc P w base spare held t2 v2 d2 p2 := by
  obtain ⟨v0, vs0, d0, ds0, p0, q0, hargs, rfl, rfl, h0, h⟩ := trodAll_cons h
  obtain ⟨v1, vs1, d1, ds1, p1, q1, rfl, rfl, rfl, h1, h⟩ := trodAll_cons h
  obtain ⟨v2, vs2, d2, ds2, p2, q2, rfl, rfl, rfl, h2, h⟩ := trodAll_cons h
  obtain ⟨rfl, rfl, rfl⟩ := trodAll_nil h
  exact ⟨v0, v1, v2, d0, d1, d2, p0, p1, p2, by cases args; simp_all, rfl, by simp, h0, h1, h2⟩

theorem door_met (os : Os) (args : Array Value) : laidMetH Tryd.prog Rows.journalCutsRow.laid ((World.doorLaid Tryd.prog 400 os).forCall (fun _ _ => 0) ⟨#[], args, []⟩).memory :=
  laidMetH_of_parts3 (fuel := 8) (laidMet_of_run' 8 (by kernel_rfl) (by kernel_rfl)) (by kernel_rfl) (by kernel_rfl)

set_option maxRecDepth 100000 in
theorem law_lifted (os : Os) (started : os.Started) (H : Type) (enc : TypeId × Value → H) :
    ReturnsInHanded {} Tryd.checked os 4 .any (fun w args => (Rows.journalCutsSpec.pre enc Tryd.prog Tryd.f4 Rows.journalCutsRow.domain false w args ∧ laidMetH Tryd.prog Rows.journalCutsRow.laid w) ∧ sizedMet enc Tryd.prog Tryd.f4 (OpenSpec.ofChange Rows.journalCutsSpec) false w args) (Rows.journalCutsSpec.post enc Tryd.prog Tryd.f4 false true false false) := by
  refine lawTrueLaid (C := Tryd.checked) (tb := 4) df_own started (by kernel_rfl) Tryd.func4 df_laid rfl ?_ rfl Tryd.underlying4 (by kernel_rfl)
    (ChangeSpec.witness_shaped (enc := enc) (C := Tryd.checked) (os := os) (X := fun w _ => laidMetH Tryd.prog Rows.journalCutsRow.laid w) false (World.doorLaid Tryd.prog 400 os) #[.slice none 0 0, .int .i64 0, .slice none 0 0] 8 rfl (World.shaped_of_RefB (by kernel_rfl) (by kernel_rfl)) (by kernel_rfl) (by kernel_rfl) (by kernel_rfl) (door_met os _)) ?_
  · intro ds hd
    match ds, hd with
    | [_, _, _], _ => exact ⟨rfl, rfl, rfl⟩
  · intro W base args ds p hval0 hA0 _ hL
    have hval : ∀ (j : Nat) t v, Tryd.f4.params[j]? = some t → args[j]? = some v → Value.okWide Tryd.prog W .any base t v := hval0
    have hA : DataW.TrodAll enc Tryd.prog W 0 (fun _ => true) true Tryd.f4.params.toList args.toList ds p := hA0
    rw [Tryd.params4] at hA hval
    obtain ⟨v0, v1, v2, d0, d1, d2, p0, p1, p2, rfl, rfl, rfl, h0, h1, h2⟩ := trodAll_n hA
    obtain ⟨ap, ac, a, rfl, aa, ab, s0⟩ := open_sl (α := ByteArray) 12 Tryd.underlying36 (hval 0 36 v0 rfl rfl) (by kernel_rfl) h0
    obtain ⟨n, rfl, rfl, rfl, nw⟩ := open_int Tryd.underlying3 (hval 1 3 v1 rfl rfl) h1
    obtain ⟨bp, bc, b, rfl, ba, bb, s2⟩ := open_sl (α := ByteArray) 12 Tryd.underlying36 (hval 2 36 v2 rfl rfl) (by kernel_rfl) h2
    have st0 : Stable (fun M w => Sl M w bp b) := inferInstance
    have st1 : Stable (fun M w => Sl M w ap a ∧ Sl M w bp b) := instStableAnd (fun M w => Sl M w ap a) (fun M w => Sl M w bp b)
    have st2 : Stable (fun M w => LaidI M w ∧ Sl M w ap a ∧ Sl M w bp b) := instStableAnd (fun M w => LaidI M w) (fun M w => Sl M w ap a ∧ Sl M w bp b)
    have fin : GivesIn (fun M w => LaidI M w ∧ Sl M w ap a ∧ Sl M w bp b) Tryd.prog 4 _ (.bool true) := Cuts_in (Φ := (fun M w => LaidI M w ∧ Sl M w ap a ∧ Sl M w bp b)) ⟨fun _ _ h => h.1.1, fun _ _ h => h.1.2⟩ (ap := ap) (bp := bp) (ac := ac) (bc := bc) (a := a) (b := b) (n := n) (fun _ _ h => h.2.1) (fun _ _ h => h.2.2) aa (by unfold maxLen at *; omega) (by unfold maxLen at *; omega)
    exact fin.law ⟨la_num hL, s0, s2⟩

theorem row_holds : Rows.JournalCutsSaid :=
  OpenClaim.holds_of_wide 4 Tryd.f4 rfl rfl rfl rfl rfl rfl rfl ⟨rfl, rfl, rfl, rfl, rfl⟩ rfl rfl rfl rfl rfl (by kernel_rfl) Tryd.func4 (by kernel_rfl)
    (of_decide_eq_true (by kernel_rfl)) (by unfold Func.isWrapper; first | (rw [if_pos (by decide +kernel)]; kernel_rfl) | (rw [if_neg (by decide +kernel)]; exact ⟨rfl, rfl⟩))
    (fun os started H enc _ => law_lifted os started H enc)

theorem cuts_holds : Rows.JournalCutsCardSaid :=
  Claim7.holds_tied_plain_at .later [] [.data, .data, .data, .data, .sentinel, .sentinel] true Rows.journalCutsCard.stood.harness true
    row_holds (fun _ h => by cases h) (by kernel_rfl) (fun _ h => by cases h) journalCuts_row_tie rfl ⟨rfl, rfl⟩ (by kernel_rfl) rfl
    (fun f fn hf hfn => by
      obtain rfl : f = 4 := Option.some.inj ((show Tryd.prog.funcNamed Rows.journalCutsRow.func = some 4 by kernel_rfl).symm.trans hf) |>.symm
      obtain rfl : fn = Tryd.f4 := (Option.some.inj (Tryd.func4.symm.trans hfn)).symm
      exact ⟨by kernel_rfl, fun j t ht => by
        rw [Tryd.params4] at ht
        have hm := Array.mem_of_getElem? ht
        have hall : ((Tryd.f4.params.toList).all fun u => !Tryd.prog.wantsStandIn u) = true := by kernel_rfl
        rw [Tryd.params4] at hall
        exact (show Tryd.prog.wantsStandIn t = false by simpa using List.all_eq_true.1 hall t (by simpa using hm))⟩)
    (by kernel_rfl)

end Go.Proofs.YtfccagphnfceiaaDoor
end

