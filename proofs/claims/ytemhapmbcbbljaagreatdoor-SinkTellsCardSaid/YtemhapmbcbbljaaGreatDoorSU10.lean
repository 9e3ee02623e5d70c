/-
  The reading of sinks, walked: lists of ints, lines.
-/
import Derived.Test.YtemhapmbcbbljaaGreatDoorSU9
import Derived.Test.YtemhapmbcbbljaaGreatDoorSU7
import Derived.Test.YtemhapmbcbbljaaGreatDoorSU6
import Derived.Test.YtemhapmbcbbljaaGreatDoorSU8
import Derived.Laws.IdiomStrings

set_option linter.unusedVariables false
set_option linter.unusedSimpArgs false
section
namespace Go.Proofs.YtemhapmbcbbljaaGreatDoor
open Go.Vc
theorem num_from : ∀ (k : Nat) (st st' : RdS) (acc out : List LineD), linesK k st acc = some (out, st') → numK 1 acc = true → numK 1 out = true
  | 0, st, st', acc, out, h, ha => by
    have h : some (acc, st) = some (out, st') := h
    cases h
    exact ha
  | k + 1, st, st', acc, out, h, ha => by
    unfold linesK at h
    obtain ⟨⟨x, s2⟩, h1, h2⟩ := Option.bind_eq_some_iff.1 h
    refine num_from k s2 st' _ out h2 (num_app ha ?_)
    have := (line_eats h1).2.2.2.2.2.2.2.1
    show (decide (x.no = 1 + (acc.length : Int)) && true) = true
    rw [this, decide_eq_true (by omega)]
    rfl
theorem itemsK_len : ∀ (k : Nat) (st : RdS) (acc : List Int), (itemsK k st acc).2.1.length ≤ st.1.length ∧ (itemsK k st acc).1.length * 2 ≤ acc.length * 2 + st.1.length + 2
  | 0, st, acc => ⟨Nat.le_refl _, by show acc.length * 2 ≤ _; omega⟩
  | k + 1, st, acc => by
    cases hb : st.2 with
    | true => rw [itemsK_e hb]; exact ⟨Nat.le_refl _, by show acc.length * 2 ≤ _; omega⟩
    | false =>
      rw [itemsK_s hb]
      rcases rdInt_eats st with ⟨e, _⟩ | ⟨e, _⟩
      · rw [e, itemsK_e rfl]
        refine ⟨Nat.zero_le _, ?_⟩
        show (acc ++ [_]).length * 2 ≤ _
        rw [List.length_append, List.length_singleton]; omega
      · obtain ⟨h1, h2⟩ := itemsK_len k (rdInt st).2 (acc ++ [(rdInt st).1])
        rw [List.length_append, List.length_singleton] at h2
        omega
theorem numsK_len {st s1 : RdS} {out : List Int} (e : numsK st = (out, s1)) : s1.1.length ≤ st.1.length ∧ out.length * 2 ≤ st.1.length + 2 := by
  have h1 := stepN_len 91 0 st
  obtain ⟨h2, h3⟩ := itemsK_len (stepN 91 0 st).1.toNat (stepN 91 0 st).2 []
  have h4 := stepC_len 93 (itemsK (stepN 91 0 st).1.toNat (stepN 91 0 st).2 []).2
  have e1 : (if (stepC 93 (itemsK (stepN 91 0 st).1.toNat (stepN 91 0 st).2 []).2).2 then [] else (itemsK (stepN 91 0 st).1.toNat (stepN 91 0 st).2 []).1, stepC 93 (itemsK (stepN 91 0 st).1.toNat (stepN 91 0 st).2 []).2) = (out, s1) := e
  injection e1 with e1 e2
  rw [← e2, ← e1]
  rw [List.length_nil] at h3
  refine ⟨by omega, ?_⟩
  split
  · rw [List.length_nil]; omega
  · omega
theorem lineK_eats {nx : Int} {st st' : RdS} {x : LineD} (h : lineK nx st = some (x, st')) : st'.1.length + 7 ≤ st.1.length ∧ x.row.length ≤ st.1.length ∧ I64 x.batch ∧ I64 x.time ∧ I64 x.n ∧ I64 x.cause ∧ I64 x.why ∧ x.no = nx := by
  obtain ⟨h1, h2, _, h4, h5, h6, h7, h8, h9⟩ := line_eats h
  have := rdInt_len st
  exact ⟨by omega, by omega, by rw [h9]; exact rdInt_i64 st, h4, h5, h6, h7, h8⟩
section
variable {W w : World} {R G S : List Own} {Φ : PW} {b : Nat} {st : RdS}
set_option maxHeartbeats 1000000 in
theorem Items_use [Stable Φ] (hΦ : ∀ M w, Φ M w → NumI M w) (hl : st.1.length ≤ 10000000) (c : Ctx W w (rd b st :: S) Φ) {K : Ending → World → Prop}
    (hk : ∀ p c w', (numsK st).1.length ≤ c → c ≤ maxLen → Ctx W w' (rd b (numsK st).2 :: S) (fun M w => Φ M w ∧ Sl M w p (numsK st).1) → K (.returned (.slice p (numsK st).1.length c)) w') :
    Calls Tryz.prog F.wire_items_int #[.pointer (some ⟨b, 0, none⟩), .func (.func F.wire_Reader_Int) #[.pointer (some ⟨b, 0, none⟩)] #[]] w K := by
  refine (Mwire_items_int_run b 0 F.wire_Reader_Int #[.pointer (some ⟨b, 0, none⟩)] (J := fun u w' => K (.returned u) w') (R := rd b st :: S) c ?_).mono fun e w' ⟨v, he, hj⟩ => by rw [he]; exact hj
  clear c
  refine fun w G cx => number_to (S := S) hΦ 91 0 (by omega) cx ?_
  clear cx
  have hlen := stepN_len 91 0 st
  have hnn := stepN_nonneg (e := 91) (.inr (.inr rfl)) st
  rw [show (91 : Int).toNat.toUInt8 = 91 from rfl]
  have hall : numsK st = (if (stepC 93 (itemsK (stepN 91 0 st).1.toNat (stepN 91 0 st).2 []).2).2 then [] else (itemsK (stepN 91 0 st).1.toNat (stepN 91 0 st).2 []).1, stepC 93 (itemsK (stepN 91 0 st).1.toNat (stepN 91 0 st).2 []).2) := rfl
  obtain ⟨⟨n0, st0⟩, hst⟩ : ∃ x, stepN 91 0 st = x := ⟨_, rfl⟩
  rw [hst] at hlen hnn hall ⊢
  simp only at hlen hnn hall ⊢
  refine exI_mk (fun p n c m R' Φ' k => ∃ (s1 : RdS) (acc : List Int), n = acc.length ∧ R' = bufZ p c acc :: rd b s1 :: S ∧ Φ' = Φ ∧ k = m.toNat ∧ 0 ≤ m ∧ m ≤ 9223372036854775807 ∧ s1.1.length ≤ st.1.length ∧ (s1.2 = false → acc.length * 2 + s1.1.length ≤ st.1.length) ∧ acc.length * 2 ≤ st.1.length + 2 ∧ (∀ x ∈ acc, I64 x) ∧ itemsK n0.toNat st0 [] = itemsK m.toNat s1 acc)
    ⟨⟨bufZ none 0 [] :: rd b st0 :: S, Φ, _, inferInstance, fun w G cx => cx.nobuf 3 1, st0, [], rfl, rfl, rfl, rfl, hnn.1, hnn.2, hlen, fun _ => by simp only [List.length_nil]; omega, by simp, by simp, rfl⟩, ?_⟩
  rintro p n c m R1 Φ1 k _ ⟨s1, acc, rfl, rfl, rfl, rfl, hm0, hm1, hsl, hal, hal2, hai, hit⟩
  refine fun w G cx => ⟨s1.2, fun _ => cx.get 1 rfl rfl, ?_⟩
  clear cx
  refine Br.intro (fun hgo => fun w G cx => ⟨by kernel_rfl, ?_⟩) (fun hstop => ?_)
  · rw [Bool.and_eq_true] at hgo
    have hpos := of_decide_eq_true hgo.1
    have hgood : s1.2 = false := by simpa using hgo.2
    have hal := hal hgood
    refine RInt_to (S := bufZ p c acc :: S) hΦ (by omega) cx.swap ?_
    clear cx
    refine fun kb w G cx => ?_
    have cx1 : Ctx W w (.blk kb [.int .i64 (rdInt s1).1] 3 :: bufZ p c acc :: (rd b (rdInt s1).2 :: S) ++ G) Φ1 := cx.perm ((List.Perm.swap _ _ _).cons _)
    obtain ⟨p', c', w', hrun, cx'⟩ := pushZ (by omega) cx1
    refine ⟨p', _, c', w', hrun, _, Φ1, inferInstance, cx', by unfold I64; omega, _, Φ1, (m - 1).toNat, inferInstance, fun w G cx => cx, ⟨(rdInt s1).2, acc ++ [(rdInt s1).1], rfl, rfl, rfl, rfl, by omega, by omega, ?_, ?_, ?_, ?_, ?_⟩, by omega⟩
    · have := rdInt_len s1
      omega
    · intro hg2
      rw [List.length_append, List.length_singleton]
      rcases rdInt_eats s1 with ⟨e, _⟩ | ⟨e, _⟩
      · rw [e] at hg2; cases hg2
      · omega
    · rw [List.length_append, List.length_singleton]
      omega
    · intro x hx
      rcases List.mem_append.1 hx with hx | hx
      · exact hai x hx
      · rw [List.mem_singleton.1 hx]; exact rdInt_i64 _
    · rw [hit, show m.toNat = (m - 1).toNat + 1 by omega, itemsK_s hgood]
  · have hend : itemsK n0.toNat st0 [] = (acc, s1) := by
      rw [hit]
      rcases Bool.and_eq_false_iff.1 hstop with h | h
      · have := of_decide_eq_false h
        rw [show m.toNat = 0 by omega]; rfl
      · exact itemsK_e (by simpa using h)
    rw [hend] at hall
    simp only at hall
    refine fun w G cx => close_to (S := bufZ p c acc :: S) 93 cx.swap ?_
    clear cx
    refine fun w G cx => ⟨(stepC 93 s1).2, cx.get 0 rfl rfl, Br.intro (fun hb => fun w G cx => ?_) (fun hb => fun w G cx => ?_)⟩
    · have e : numsK st = ([], stepC 93 s1) := by rw [hall, if_pos hb]
      rw [e] at hk
      have cy : Ctx W w (bufZ p c acc :: rd b (stepC 93 s1) :: S) Φ1 := cx.swap.left
      exact hk none 0 w (Nat.le_refl _) (Nat.zero_le _) (cy.drop1.weak fun M w h => ⟨h, Sl.nil⟩)
    · have e : numsK st = (acc, stepC 93 s1) := by rw [hall, if_neg (by rw [hb]; simp)]
      rw [e] at hk
      have cy : Ctx W w (bufZ p c acc :: rd b (stepC 93 s1) :: S) Φ1 := cx.swap.left
      obtain ⟨cx3, hs, _, g1, g2⟩ := Ctx.freeze (α := Int) cy (ints_elems acc hai)
      exact hk p c w g1 g2 (cx3.add hs)
theorem Nums_to [Stable Φ] (hΦ : ∀ M w, Φ M w → NumI M w) (hl : st.1.length ≤ 10000000) {out : List Int} {s1 : RdS} (e : numsK st = (out, s1)) (c : Ctx W w (rd b st :: S ++ G) Φ) {K : Option Addr → Nat → Nat → List Own → PW → Prop}
    (hk : ∀ p c, out.length ≤ c → c ≤ maxLen → Stable (fun M w => Φ M w ∧ Sl M w p out) → K p out.length c (rd b s1 :: S) (fun M w => Φ M w ∧ Sl M w p out)) :
    Calls Tryz.prog F.wire_Reader_Nums #[.pointer (some ⟨b, 0, none⟩)] w fun e w' => ∃ p n c, e = .returned (.slice p n c) ∧ ∃ R' Φ', Stable Φ' ∧ Ctx W w' (R' ++ G) Φ' ∧ K p n c R' Φ' := by
  refine (Bwire_Reader_Nums_run b 0 (J := fun u w' => ∃ p n c, (Ending.returned u) = .returned (.slice p n c) ∧ ∃ R' Φ', Stable Φ' ∧ Ctx W w' (R' ++ G) Φ' ∧ K p n c R' Φ') (R := rd b st :: (S ++ G)) c ?_).mono fun e w' ⟨v, he, hj⟩ => by rw [he]; exact hj
  clear c
  refine fun w G2 cx => Items_use (S := (S ++ G) ++ G2) hΦ hl cx fun p c w g1 g2 cx => ?_
  rw [e] at g1 cx ⊢
  exact ⟨p, _, c, rfl, rd b s1 :: (S ++ G), _, inferInstance, cx, fun w G3 cx => ⟨p, _, c, rfl, rd b s1 :: S, _, inferInstance, Ctx.left (S := rd b s1 :: (S ++ G)) cx, hk p c g1 g2 inferInstance⟩⟩
theorem RInt_toE [Stable Φ] (hΦ : ∀ M w, Φ M w → NumI M w) (hl : st.1.length ≤ 1000000000) {n : Int} {s1 : RdS} (e : rdInt st = (n, s1)) (c : Ctx W w (rd b st :: S ++ G) Φ) {K : Int → List Own → PW → Prop}
    (hk : K n (rd b s1 :: S) Φ) :
    Calls Tryz.prog F.wire_Reader_Int #[.pointer (some ⟨b, 0, none⟩)] w fun e w' => ∃ n, e = .returned (.int .i64 n) ∧ ∃ R' Φ', Stable Φ' ∧ Ctx W w' (R' ++ G) Φ' ∧ K n R' Φ' :=
  RInt_to hΦ hl c (by rw [e]; exact hk)
theorem pushK {PS : PW} [Stable PS] {op : Option Addr} {oc : Nat} {ds : List Value} {o : List LineD} {x : LineD} {a : Option Addr} {ac kb : Nat} (hx : ∀ M w, PS M w → Gv.rep M w (x.cells a ac) x) (ho : o.length < 10000000)
    (cx : Ctx W w (.blk kb (x.cells a ac) 51 :: .buf op o.length oc ds 51 7 :: R ++ G) (fun M w => PS M w ∧ Elems M w ds o)) :
    ∃ p c w', Sem.run Tryz.prog (builtin Builtin.append #[33, 33] 33 #[false, false] #[.slice op o.length oc, .slice (some ⟨kb, 0, none⟩) 1 1]) w = .ok (.value (.slice p (o ++ [x]).length c)) w' ∧ Ctx W w' (.buf p (o ++ [x]).length c (ds ++ x.cells a ac) 51 7 :: R ++ G) (fun M w => PS M w ∧ Elems M w (ds ++ x.cells a ac) (o ++ [x])) := by
  obtain ⟨p', cap', w', hrun, _, cx'⟩ := Ctx.app1 (P := Tryz.prog) (ts := 33) (ty := 33) (kb := #[false, false]) (size := 7) (bytes := 72) cx (by kernel_rfl) (by omega) rfl rfl (by omega) (by omega)
  have e : o.length + 1 = (o ++ [x]).length := by simp
  rw [e] at hrun cx'
  exact ⟨p', cap', w', hrun, cx'.weak fun M w h => ⟨h.1, h.2.snoc (hx M w h.1)⟩⟩
set_option maxHeartbeats 2000000 in
theorem readLines_to [Stable Φ] (hΦ : ∀ M w, Φ M w → NumI M w) (hl : st.1.length ≤ 3000000) (c : Ctx W w (rd b st :: S ++ G) Φ) {K : Option Addr → Nat → Nat → Bool → List Own → PW → Prop}
    (h0 : readLinesK st = none → ∀ s1, s1.1.length ≤ st.1.length → K none 0 0 false (rd b s1 :: S) Φ)
    (h1 : ∀ l s1 p c cs, readLinesK st = some (l, s1) → l.length * 7 + s1.1.length ≤ st.1.length → (∀ x ∈ l, x.row.length ≤ 3000000) → (0 < l.length → ∃ g, p = some ⟨g, 0, none⟩) → Stable (fun M w => Φ M w ∧ Elems M w cs l) → K p l.length c true (bufL p l.length c cs :: rd b s1 :: S) (fun M w => Φ M w ∧ Elems M w cs l)) :
    Calls Tryz.prog F.sink_readLines #[.pointer (some ⟨b, 0, none⟩)] w fun e w' => ∃ p n c ok, e = .returned (.tuple #[.slice p n c, .bool ok]) ∧ ∃ R' Φ', Stable Φ' ∧ Ctx W w' (R' ++ G) Φ' ∧ K p n c ok R' Φ' := by
  refine (Bsink_readLines_run b 0 (J := fun u w' => ∃ p n c ok, (Ending.returned u) = .returned (.tuple #[.slice p n c, .bool ok]) ∧ ∃ R' Φ', Stable Φ' ∧ Ctx W w' (R' ++ G) Φ' ∧ K p n c ok R' Φ') (R := rd b st :: (S ++ G)) c ?_).mono fun e w' ⟨v, he, hj⟩ => by rw [he]; exact hj
  clear c
  refine fun w G2 cx => RNum_to (S := S ++ G) hΦ (by omega) cx ?_
  clear cx
  have hlen : (rdNat st).2.1.length ≤ st.1.length := stepN_len 59 0 st
  have hnn : 0 ≤ (rdNat st).1 ∧ (rdNat st).1 ≤ 9223372036854775807 := stepN_nonneg (e := 59) (.inr (.inl rfl)) st
  have hall : readLinesK st = linesK (rdNat st).1.toNat (rdNat st).2 [] := rfl
  obtain ⟨⟨n0, st0⟩, hst⟩ : ∃ x, rdNat st = x := ⟨_, rfl⟩
  rw [hst] at hlen hnn hall ⊢
  simp only at hlen hnn hall ⊢
  refine exI_mk (fun p n c R' Φ' k => ∃ (sl : RdS) (acc : List LineD) (ds : List Value), n = acc.length ∧ R' = bufL p n c ds :: rd b sl :: (S ++ G) ∧ Φ' = (fun M w => Φ M w ∧ Elems M w ds acc) ∧ k = (n0 - acc.length).toNat ∧ acc.length * 7 + sl.1.length ≤ st.1.length ∧ (∀ x ∈ acc, x.row.length ≤ 3000000) ∧ (acc.length : Int) ≤ n0 ∧ linesK n0.toNat st0 [] = linesK (n0 - acc.length).toNat sl acc)
    ⟨⟨bufL none 0 0 [] :: rd b st0 :: (S ++ G), fun M w => Φ M w ∧ Elems M w [] ([] : List LineD), _, inferInstance, fun w G cx => (cx.nobuf 51 7).weak fun M w h => ⟨h, Elems.nil⟩, st0, [], [], rfl, rfl, rfl, rfl, by simp only [List.length_nil]; omega, by simp, by simp only [List.length_nil]; omega, by simp⟩, ?_⟩
  rintro p n c R1 Φ1 k _ ⟨sl, acc, ds, rfl, rfl, rfl, rfl, hal, har, han, hlr⟩
  have hst1 : Stable (fun M w => Φ M w ∧ Elems M w ds acc) := inferInstance
  have hT1 : ∀ M w, (Φ M w ∧ Elems M w ds acc) → NumI M w := fun M w h => hΦ M w h.1
  refine Br.intro (fun hlt => ⟨by unfold I64; omega, ?_⟩) (fun hge => fun w G2 cx => ?_)
  · have hlt := of_decide_eq_true hlt
    have hkk : (n0 - (acc.length : Int)).toNat = (n0 - ((acc.length + 1 : Nat) : Int)).toNat + 1 := by omega
    rw [hkk] at hlr
    have hls : lineK ((acc.length : Int) + 1) sl = lineR ((acc.length : Int) + 1) (rdInt sl).1 (rdInt sl).2 := rfl
    obtain ⟨bt, hbt⟩ : ∃ bt, (rdInt sl).1 = bt := ⟨_, rfl⟩
    obtain ⟨s2, hs2⟩ : ∃ s2, (rdInt sl).2 = s2 := ⟨_, rfl⟩
    have q0 := rdInt_len sl
    rw [hs2] at q0
    rw [hbt, hs2] at hls
    have q1 := rdInt_len s2
    obtain ⟨q2, q3⟩ := stepT_len (rdInt s2).2
    have q4 := rdInt_len (stepT (rdInt s2).2).2
    have q5 := rdInt_len (rdInt (stepT (rdInt s2).2).2).2
    refine fun w G2 cx => RInt_to (S := bufL p acc.length c ds :: (S ++ G)) hT1 (by omega) cx.swap ?_
    clear cx
    rw [hbt, hs2]
    refine fun w G2 cx => RInt_to (S := bufL p acc.length c ds :: (S ++ G)) hT1 (by omega) cx ?_
    clear cx
    refine fun _ w G2 cx => Text_to (S := bufL p acc.length c ds :: (S ++ G)) hT1 (by omega) cx ?_
    clear cx
    refine fun w G2 cx => ReadRowS_to (R := rd b (stepT (rdInt s2).2).2 :: bufL p acc.length c ds :: (S ++ G)) hT1 (stepT (rdInt s2).2).1 (by omega) cx (fun hn => ?_) (fun r rp rc hr g1 g2 hst6 => ?_)
    · clear cx
      rw [linesK_n (hls.trans (lineR_none hn))] at hlr
      refine Br.intro (fun _ => fun w G2 cx => ⟨_, _, _, _, rfl, rd b (stepT (rdInt s2).2).2 :: S, Φ, inferInstance, ?_, h0 (by rw [hall, hlr]) _ (by omega)⟩) (fun h => by cases h)
      exact (Ctx.drop1 (Ctx.swap cx.left)).weak fun M w h => h.1
    · clear cx
      obtain ⟨x, hx⟩ : ∃ x, rdL s2 ((acc.length : Int) + 1) bt r = x := ⟨_, rfl⟩
      have hls2 : lineK ((acc.length : Int) + 1) sl = some (x.1, x.2) := by rw [hls, lineR_some hr, hx]
      obtain ⟨z1, z2, z3, z4, z5, z6, z7, z8⟩ := lineK_eats hls2
      rw [linesK_s hls2] at hlr
      have hT6 : ∀ M w, ((Φ M w ∧ Elems M w ds acc) ∧ Sl M w rp r) → NumI M w := fun M w h => hΦ M w h.1.1
      refine Br.intro (fun h => by cases h) (fun _ => ?_)
      refine fun w G2 cx => RInt_to (S := bufL p acc.length c ds :: (S ++ G)) hT6 (by omega) cx ?_
      clear cx
      refine fun w G2 cx => RInt_to (S := bufL p acc.length c ds :: (S ++ G)) hT6 (by omega) cx ?_
      clear cx
      refine fun w G2 cx => RInt_to (S := bufL p acc.length c ds :: (S ++ G)) hT6 (by omega) cx ?_
      clear cx
      refine fun kb w G2 cx => ?_
      have hxr : x.1.row = r := by rw [← hx]; rfl
      have hxe : x.2 = (rdInt (rdInt (rdInt (stepT (rdInt s2).2).2).2).2).2 := by rw [← hx]; rfl
      have hxc : x.1.cells rp rc = [.int .i64 ((acc.length : Int) + 1), .int .i64 bt, .int .i64 (rdInt s2).1, .slice rp r.length rc, .int .i64 (rdInt (stepT (rdInt s2).2).2).1, .int .i64 (rdInt (rdInt (stepT (rdInt s2).2).2).2).1, .int .i64 (rdInt (rdInt (rdInt (stepT (rdInt s2).2).2).2).2).1] := by rw [← hx]; rfl
      have hin : x.1.In := ⟨by rw [z8]; unfold I64; omega, z3, z4, z5, z6, z7⟩
      rw [← hxe, ← hxc] at cx
      have cx1 : Ctx W w (.blk kb (x.1.cells rp rc) 51 :: .buf p acc.length c ds 51 7 :: (rd b x.2 :: (S ++ G)) ++ G2) (fun M w => (Φ M w ∧ Sl M w rp r) ∧ Elems M w ds acc) := (cx.perm ((List.Perm.swap _ _ _).cons _)).weak fun M w h => ⟨⟨h.1.1, h.2⟩, h.1.2⟩
      obtain ⟨p', c', w', hrun, cx'⟩ := pushK (PS := fun M w => Φ M w ∧ Sl M w rp r) (fun M w h => rep_line (by rw [hxr]; exact g1) g2 hin (by rw [hxr]; exact h.2)) (by omega) cx1
      refine ⟨p', _, c', w', hrun, _, _, inferInstance, cx'.weak fun M w h => (⟨h.1.1, h.2⟩ : Φ M w ∧ Elems M w _ (acc ++ [x.1])), _, _, (n0 - ((acc.length + 1 : Nat) : Int)).toNat, inferInstance, fun w G cx => cx, ⟨x.2, acc ++ [x.1], _, rfl, rfl, rfl, by rw [List.length_append, List.length_singleton], by rw [List.length_append, List.length_singleton]; omega, fun y hy => ?_, by rw [List.length_append, List.length_singleton]; omega, by rw [List.length_append, List.length_singleton]; exact hlr⟩, by omega⟩
      rcases List.mem_append.1 hy with hy | hy
      · exact har y hy
      · rw [List.mem_singleton.1 hy]; omega
  · have hge := of_decide_eq_false hge
    rw [show (n0 - (acc.length : Int)).toNat = 0 by omega, linesK_z] at hlr
    have hpt : 0 < acc.length → ∃ g, p = some ⟨g, 0, none⟩ := fun h0 => l_ptr (S := (rd b sl :: (S ++ G)) ++ G2) cx (by rw [elems_len7 cx.phi.2]; omega)
    exact ⟨p, _, c, true, rfl, bufL p acc.length c ds :: rd b sl :: S, _, hst1, Ctx.left (S := bufL p acc.length c ds :: rd b sl :: (S ++ G)) cx, h1 acc sl p c ds (by rw [hall, hlr]) hal har hpt hst1⟩
end
end Go.Proofs.YtemhapmbcbbljaaGreatDoor
end

section
namespace Go.Proofs.YtemhapmbcbbljaaGreatDoor
open Go.Vc
theorem Ctx.mid {W w : World} {A B G : List Own} {x : Own} {Φ : PW} [Stable Φ] (c : Ctx W w ((x :: (A ++ B)) ++ G) Φ) : Ctx W w ((A ++ (x :: B)) ++ G) Φ := c.perm (by simpa using (List.perm_middle (l₁ := A) (a := x) (l₂ := B ++ G)).symm)
theorem Ctx.front {W w : World} {A B G : List Own} {x : Own} {Φ : PW} [Stable Φ] (c : Ctx W w ((A ++ (x :: B)) ++ G) Φ) : Ctx W w ((x :: (A ++ B)) ++ G) Φ := c.perm (by simp)
theorem perm_rev3 {A T : List Own} {a b c : Own} : (A ++ (a :: b :: c :: T)).Perm (c :: b :: a :: (A ++ T)) := by
  have h : (A ++ ([a, b, c] ++ T)).Perm ([a, b, c] ++ (A ++ T)) := by
    rw [← List.append_assoc, ← List.append_assoc]
    exact List.Perm.append_right _ List.perm_append_comm
  exact h.trans ((List.reverse_perm [c, b, a]).append_right (A ++ T))
theorem Ctx.swapU {W w : World} {A B R G : List Own} {Φ : PW} [Stable Φ] (c : Ctx W w ((A ++ (B ++ R)) ++ G) Φ) : Ctx W w ((B ++ (A ++ R)) ++ G) Φ := c.perm (by
  rw [← List.append_assoc, ← List.append_assoc B A]
  exact List.Perm.append_right _ (List.Perm.append_right _ List.perm_append_comm))
theorem subPtr_z (p : Option Addr) (s m : Nat) : subPtr p s 0 m = p := by
  unfold subPtr
  split
  · rfl
  · cases p with
    | none => rfl
    | some a => simp [Addr.add]
theorem sl_take {M : List Nat} {w : World} {p : Option Addr} {l : List LineD} (h : Sl M w p l) (j : Nat) : Sl M w p (l.take j) := fun i hi => by
  rw [List.length_take] at hi
  rw [List.getElem_take]
  exact h i (by omega)
theorem there_sub {p : Option Addr} {l : List LineD} {j c : Nat} (h : There p l.length) : There (subPtr p 7 j c) (l.drop j).length := fun h0 => by
  rw [List.length_drop] at h0
  obtain ⟨b, o, rfl⟩ := h (by omega)
  unfold subPtr
  split
  · exact ⟨b, o, rfl⟩
  · exact ⟨b, o + j * 7, by simp [Addr.add]⟩
theorem sl_batch {M : List Nat} {w : World} {b o : Nat} {l : List LineD} (h : Sl M w (some ⟨b, o, none⟩) l) {i : Nat} (hi : i < l.length) : w.cell? ⟨b, o + i * 7 + 1, none⟩ = some (.int .i64 l[i].batch) := by
  obtain ⟨b', o', cs, e, _, h3, h4⟩ := h i hi
  cases e
  obtain ⟨p', c', e', _, _, _, _⟩ := line_cells h4
  rw [e'] at h3
  have := h3 1 (by show 1 < 7; decide)
  exact this
theorem head_take {b : Int} : ∀ {l : List LineD} {j : Nat}, j ≤ l.length → (∀ x ∈ l.take j, x.batch = b) → (∀ h : j < l.length, l[j].batch ≠ b) → headK b l = l.take j ∧ restK b l = l.drop j
  | [], j, h, _, _ => by simp [headK, restK]
  | x :: l, 0, _, _, h => by
    have h : x.batch ≠ b := h (by simp)
    unfold headK restK
    rw [List.takeWhile_cons_of_neg (by simpa using h), List.dropWhile_cons_of_neg (by simpa using h)]
    exact ⟨rfl, rfl⟩
  | x :: l, j + 1, h1, h2, h3 => by
    have hx : x.batch = b := h2 x (by simp)
    obtain ⟨g1, g2⟩ := head_take (b := b) (l := l) (j := j) (by simpa using h1) (fun y hy => h2 y (by simp [hy])) (fun h => by have := h3 (by simpa using h); simpa using this)
    unfold headK restK at *
    rw [List.takeWhile_cons_of_pos (by simpa using hx), List.dropWhile_cons_of_pos (by simpa using hx), g1, g2]
    exact ⟨rfl, rfl⟩
theorem shift_len (m : Int) (l : List LineD) : (shiftL m l).length = l.length := by simp [shiftL]
theorem shift_at {m : Int} {a : List LineD} {i : Nat} (hi : i < a.length) : (shiftL m (a.take i) ++ a.drop i)[i]? = some a[i] := by
  have hl : (shiftL m (a.take i)).length = i := by rw [shift_len, List.length_take]; omega
  rw [List.getElem?_append_right (by omega), hl, Nat.sub_self, List.getElem?_drop, Nat.add_zero, List.getElem?_eq_getElem hi]
theorem shift_step {m : Int} {a : List LineD} {i : Nat} (hi : i < a.length) : (shiftL m (a.take i) ++ a.drop i).set i { a[i] with no := a[i].no + m } = shiftL m (a.take (i + 1)) ++ a.drop (i + 1) := by
  have hl : (shiftL m (a.take i)).length = i := by rw [shift_len, List.length_take]; omega
  rw [List.set_append_right _ _ (by omega), hl, Nat.sub_self, List.drop_eq_getElem_cons hi, List.set_cons_zero, List.take_succ_eq_append_getElem hi]
  unfold shiftL
  rw [List.map_append, List.append_assoc]
  rfl
theorem num_at : ∀ {n : Int} {l : List LineD} {i : Nat} (h : i < l.length), numK n l = true → l[i].no = n + i
  | n, x :: l, 0, _, h => by
    have h : (decide (x.no = n) && numK (n + 1) l) = true := h
    rw [Bool.and_eq_true] at h
    have := of_decide_eq_true h.1
    show x.no = n + ((0 : Nat) : Int)
    omega
  | n, x :: l, i + 1, hi, h => by
    have h : (decide (x.no = n) && numK (n + 1) l) = true := h
    rw [Bool.and_eq_true] at h
    have := num_at (i := i) (by simpa using hi) h.2
    rw [List.getElem_cons_succ]
    omega
section
variable {Φ : PW} {q : KP} {st : SkD} {W w : World} {R S G : List Own} {p : Option Addr} {cap : Nat} {L : List LineD} {cs : List Value}
theorem CloneZ_new [Stable Φ] {l : List Int} (src : SrcZ S Φ p l) (hlen : l.length ≤ 10000000) (c : Ctx W w S Φ) :
    Calls Tryz.prog F.slices_Clone_int_int #[.slice p l.length cap] w fun e w' => ∃ p' c', e = .returned (.slice p' l.length c') ∧ Ctx W w' (bufZ p' c' l :: S) Φ := by
  refine (Bslices_Clone_int_int_run p l.length cap (J := fun v w' => ∃ p' c', v = .slice p' l.length c' ∧ Ctx W w' (bufZ p' c' l :: S) Φ) c ?_).mono fun e w' ⟨v, he, p', c', hv, rest⟩ => ⟨p', c', by rw [he, hv], rest⟩
  clear c
  refine Br.intro (fun hn => fun w F c => ?_) (fun hn => fun k w F c => ?_)
  · have hl : l = [] := by
      rcases Nat.eq_zero_or_pos l.length with h0 | h0
      · exact List.eq_nil_of_length_eq_zero h0
      · obtain ⟨b, o, e⟩ := src.ptr h0
        rw [e] at hn; cases hn
    subst hl
    exact ⟨none, 0, rfl, c.left.buf0 3 1⟩
  · have c' : Ctx W w (bufZ (some ⟨k, 0, none⟩) 0 [] :: (S ++ F)) Φ := c.toBuf 0 0 1 rfl (by simp) (by simp [maxLen])
    obtain ⟨i, z, e1, e2, e3, e4, e5, e6⟩ := appB_out (P := Tryz.prog) (ts := 22) (t := 3) (size := 1) (bytes := 8) (by kernel_rfl)
    rcases Nat.eq_zero_or_pos l.length with h0 | h0
    · have hl : l = [] := List.eq_nil_of_length_eq_zero h0
      subst hl
      exact ⟨_, _, _, w, run_app (c'.append0 0 rfl e1 e2 p cap), bufZ (some ⟨k, 0, none⟩) 0 [] :: S, Φ, inferInstance, c', fun w G c => ⟨some ⟨k, 0, none⟩, 0, rfl, c.left⟩⟩
    · obtain ⟨b, o, hp⟩ := src.ptr h0
      obtain ⟨p', cap', w', hrun, cx⟩ := c'.append 0 rfl (ty := 22) e1 e2 e3 e4 e5 (a := ⟨b, o, none⟩) (m := l.length) (c2 := cap) (news := l.map intv) h0 (by simp) (fun j u hj => by
        rw [addr_add]
        rw [List.getElem?_map] at hj
        obtain ⟨y, hy, rfl⟩ := Option.map_eq_some_iff.1 hj
        obtain ⟨hjl, rfl⟩ := List.getElem?_eq_some_iff.1 hy
        exact src.rd hp c'.drop1 j hjl) (fun u hu => by obtain ⟨y, _, rfl⟩ := List.mem_map.1 hu; rfl) (by rw [e6, List.length_nil]; omega) (by rw [List.length_nil]; omega)
      rw [← hp] at hrun
      have hz : ([] : List Int).length + l.length = l.length := Nat.zero_add _
      rw [hz] at hrun cx
      exact ⟨_, _, _, w', run_app hrun, bufZ p' cap' l :: S, Φ, inferInstance, cx, fun w G c => ⟨p', cap', rfl, c.left⟩⟩
theorem CloneL_sl [Stable Φ] {l : List LineD} [hΦ : Has Φ (fun M w => Sl M w p l)] (hlen : l.length ≤ 1000000) : GivesSl Φ Tryz.prog F.slices_Clone_api_Line_api_Line #[.slice p l.length cap] l id :=
  .there (fun M w h => (hΦ.go M w h).there) fun hth => ⟨fun W w S c => by
    obtain ⟨cs, c1⟩ := srcOf c (hΦ.go _ _ c.phi)
    refine (CloneL_new (S := S) (Φ := fun M w => Φ M w ∧ SrcF p l cs M w) (src_fact (Φ := fun M w => Φ M w ∧ SrcF p l cs M w) hth (fun M w h => h.2)).app hlen c1).mono fun e w' ⟨p', c', cs', he, cx⟩ => ?_
    obtain ⟨c2, hs, _, h2, h3⟩ := Ctx.freeze (α := LineD) cx cx.phi.2
    exact ⟨p', c', he, h2, h3, (c2.add hs).weak fun M w h => ⟨h.1.1.1, h.2⟩⟩⟩
set_option maxHeartbeats 2000000 in
theorem Copy_to [Stable Φ] [hF : Has Φ (SkF q st)] (hq : SkQ q st) {n : Nat} (hs : SkS st n) (hn : n ≤ 400000) (c : Ctx W w ((SkO q st ++ R) ++ G) Φ) {K : Option Addr → List Own → PW → Prop}
    (hk : ∀ q' : KP, SkQ q' st → Stable (fun M w => Φ M w ∧ SkF q' st M w) → K (some ⟨q'.sb, 0, none⟩) (SkO q' st ++ (SkO q st ++ R)) (fun M w => Φ M w ∧ SkF q' st M w)) :
    Calls Tryz.prog F.sink_Sink_Copy #[snk q] w fun e w' => ∃ p, e = .returned (.pointer p) ∧ ∃ R' Φ', Stable Φ' ∧ Ctx W w' (R' ++ G) Φ' ∧ K p R' Φ' := by
  have h1 := hs.lines
  have h2 := hs.aside
  have h3 := hs.bats
  have h4 := hs.key
  have hK : Has Φ (fun M w => Sl M w q.kp st.key) := ⟨fun M w h => (hF.go M w h).2.1⟩
  refine (Bsink_Sink_Copy_run q.sb 0 (R := (SkO q st ++ R) ++ G) (J := fun v w' => ∃ p, v = .pointer p ∧ ∃ R' Φ', Stable Φ' ∧ Ctx W w' (R' ++ G) Φ' ∧ K p R' Φ') c ?_).mono fun e w' ⟨v, he, p, hv, rest⟩ => ⟨p, by rw [he, hv], rest⟩
  clear c
  refine fun w G2 cx => ⟨st.kind, q.kp, st.key.length, q.kc, q.bp, st.bats.length, q.bc, q.lp, st.lines.length, q.lc, st.prep, q.ap, st.aside.length, q.ac, cx.row0 0 rfl, fun k w G2 cx => ⟨cx.can 0 rfl (by show 0 + 6 ≤ 6; decide), fun w2 hw2 => ?_⟩⟩
  have c2 : Ctx W w2 (.blk k (SkB q st) 57 :: (SkO q st ++ (R ++ G)) ++ G2) Φ := Ctx.re (cx.puts 0 hw2 rfl) (by show Own.blk k (SkB q st) 57 :: (((SkO q st ++ R) ++ G) ++ G2) = _; simp)
  refine ⟨.blk k (SkB q st) 57 :: (SkO q st ++ (R ++ G)), Φ, inferInstance, c2, .blk k (SkB q st) 57 :: (SkO q st ++ (R ++ G)), Φ, inferInstance, fun w G cx => cx, q.kp, st.key.length, q.kc, fun w G cx => ⟨_, _, _, cx.get 1 rfl rfl, rfl⟩, q.bp, st.bats.length, q.bc, fun w G cx => ⟨_, _, _, cx.get 1 rfl rfl, rfl⟩, q.lp, st.lines.length, q.lc, fun w G cx => ⟨_, _, _, cx.get 1 rfl rfl, rfl⟩, q.ap, st.aside.length, q.ac, fun w G cx => ⟨_, _, _, cx.get 1 rfl rfl, rfl⟩, ?_⟩
  clear c2 cx
  refine fun w G2 cx => (CloneZ_sl (l := st.key) (by omega)).to cx fun p1 c1 f1 f2 st1 => ⟨fun w G cx => cx.fst, ?_⟩
  clear cx
  refine fun w G2 cx => (CloneZ_new (S := (SkO q st ++ (.blk k (SkB q st) 57 :: (R ++ G))) ++ G2) (srcz_bats hq).app.app (by omega) (Ctx.mid cx)).mono fun e w' ⟨p2, c2, he, cx⟩ => ⟨p2, _, c2, he, bufZ p2 c2 st.bats :: (SkO q st ++ (.blk k (SkB q st) 57 :: (R ++ G))), _, st1, cx, fun w G cx => (Ctx.front cx.drop1).fst, ?_⟩
  clear cx
  refine fun w G2 cx => (CloneL_new (S := (SkO q st ++ (bufZ p2 c2 st.bats :: .blk k (SkB q st) 57 :: (R ++ G))) ++ G2) (src_sk hq fun M w h => (hF.go M w h.1).1).app.app (by omega) (Ctx.mid cx)).mono fun e w' ⟨p3, c3, cs3, he, cx⟩ => ⟨p3, _, c3, he, bufL p3 st.lines.length c3 cs3 :: (SkO q st ++ (bufZ p2 c2 st.bats :: .blk k (SkB q st) 57 :: (R ++ G))), (fun M w => (Φ M w ∧ Sl M w p1 st.key) ∧ Elems M w cs3 st.lines), instStableAnd (fun M w => Φ M w ∧ Sl M w p1 st.key) (fun M w => Elems M w cs3 st.lines), cx, fun w G cx => ?_, ?_⟩
  · exact (Ctx.front (Ctx.drop1 (Ctx.front cx.drop1))).weak fun M w h => h.1.1
  clear cx
  have st3 : Stable (fun M w => (Φ M w ∧ Sl M w p1 st.key) ∧ Elems M w cs3 st.lines) := instStableAnd (fun M w => Φ M w ∧ Sl M w p1 st.key) (fun M w => Elems M w cs3 st.lines)
  have hA : Has (fun M w => (Φ M w ∧ Sl M w p1 st.key) ∧ Elems M w cs3 st.lines) (fun M w => Sl M w q.ap st.aside) := ⟨fun M w h => (hF.go M w h.1.1).2.2⟩
  refine fun w G2 cx => (CloneL_sl (l := st.aside) (by omega)).to cx fun p4 c4 e1 e2 st4 => ?_
  clear cx
  intro w G2 cx
  have c5 : Ctx W w (.blk k (SkB q st) 57 :: bufZ p2 c2 st.bats :: bufL p3 st.lines.length c3 cs3 :: (SkO q st ++ (R ++ G)) ++ G2) (fun M w => ((Φ M w ∧ Sl M w p1 st.key) ∧ Elems M w cs3 st.lines) ∧ Sl M w p4 st.aside) := (Ctx.mid cx).perm (List.Perm.append_right G2 perm_rev3)
  clear cx
  refine ⟨c5.can 0 rfl (by show 1 + 1 ≤ 6; decide), fun w2 hw2 => ?_⟩
  have c6 := c5.put 0 hw2 rfl
  refine ⟨.blk k [.int .i64 st.kind, .slice p1 st.key.length c1, .slice q.bp st.bats.length q.bc, .slice q.lp st.lines.length q.lc, .int .i64 st.prep, .slice q.ap st.aside.length q.ac] 57 :: bufZ p2 c2 st.bats :: bufL p3 st.lines.length c3 cs3 :: (SkO q st ++ (R ++ G)), _, st4, c6, fun w G2 cx => ⟨cx.can 0 rfl (by show 2 + 1 ≤ 6; decide), fun w2 hw2 => ?_⟩⟩
  have c7 := cx.put 0 hw2 rfl
  refine ⟨.blk k [.int .i64 st.kind, .slice p1 st.key.length c1, .slice p2 st.bats.length c2, .slice q.lp st.lines.length q.lc, .int .i64 st.prep, .slice q.ap st.aside.length q.ac] 57 :: bufZ p2 c2 st.bats :: bufL p3 st.lines.length c3 cs3 :: (SkO q st ++ (R ++ G)), _, st4, c7, fun w G2 cx => ⟨cx.can 0 rfl (by show 3 + 1 ≤ 6; decide), fun w2 hw2 => ?_⟩⟩
  have c8 := cx.put 0 hw2 rfl
  refine ⟨.blk k [.int .i64 st.kind, .slice p1 st.key.length c1, .slice p2 st.bats.length c2, .slice p3 st.lines.length c3, .int .i64 st.prep, .slice q.ap st.aside.length q.ac] 57 :: bufZ p2 c2 st.bats :: bufL p3 st.lines.length c3 cs3 :: (SkO q st ++ (R ++ G)), _, st4, c8, fun w G2 cx => ⟨cx.can 0 rfl (by show 5 + 1 ≤ 6; decide), fun w2 hw2 => ?_⟩⟩
  have c9 := cx.put 0 hw2 rfl
  obtain ⟨q', hqe⟩ : ∃ q' : KP, q' = ⟨k, p1, c1, p2, c2, p3, c3, cs3, p4, c4⟩ := ⟨_, rfl⟩
  have c10 : Ctx W w2 ((SkO q' st ++ (SkO q st ++ R)) ++ (G ++ G2)) (fun M w => Φ M w ∧ SkF q' st M w) := by
    rw [hqe]
    have c11 := c9.weak (Ψ := fun M w => Φ M w ∧ SkF ⟨k, p1, c1, p2, c2, p3, c3, cs3, p4, c4⟩ st M w) fun M w h => ⟨h.1.1.1, h.1.2, h.1.1.2, h.2⟩
    exact c11.re (by simp)
  have hq' : SkQ q' st := skq_of (S := (SkO q st ++ R) ++ (G ++ G2)) (c10.re (by simp)) (by rw [hqe]; exact ⟨f1, f2⟩) (by rw [hqe]; exact ⟨e1, e2⟩)
  have hkk := hk q' hq' inferInstance
  rw [show q'.sb = k by rw [hqe]] at hkk
  exact ⟨SkO q' st ++ (SkO q st ++ (R ++ G)), _, inferInstance, c10.re (by simp), fun w G3 cx => ⟨_, rfl, SkO q' st ++ (SkO q st ++ R), _, inferInstance, cx.left.re (by simp), hkk⟩⟩
theorem sk_cellI [Stable Φ] {w' : World} {g n : Nat} {l : List LineD} (cx : Ctx W w (bufL (some ⟨g, 0, none⟩) n cap cs :: S) (fun M w => Φ M w ∧ Elems M w cs l)) {i : Nat} (x : LineD) {y : LineD} (hy : l[i]? = some y) {k : Nat} {v : Value}
    (hk : k < 7) (hr : x.row = y.row) (hx : ∀ p c, (y.cells p c).set k v = x.cells p c) (hin : y.In → x.In) (e : w' = w.setCell ⟨g, i * 7 + k, none⟩ v) :
    ∃ cs', Ctx W w' (bufL (some ⟨g, 0, none⟩) n cap cs' :: S) (fun M w => Φ M w ∧ Elems M w cs' (l.set i x)) := by
  obtain ⟨hi, rfl⟩ := List.getElem?_eq_some_iff.1 hy
  obtain ⟨cs', _, h⟩ := l_cell cx hi x hk hr hx hin e
  exact ⟨cs', h⟩
structure RdK (kind : Int) (key : List Int) (i n m : Nat) (st : SkD) : Prop where
  kind : st.kind = kind
  key : st.key = key
  prep : st.prep = 0
  aside : st.aside = []
  bats : st.bats.length = i
  lines : st.lines.length + n = m
set_option maxHeartbeats 8000000 in
theorem Read_to [Stable Φ] (hΦ : ∀ M w, Φ M w → NumI M w) (l : List UInt8) (hl : l.length ≤ 2500000) (c : Ctx W w (R ++ G) Φ) {K : Option Addr → Bool → List Own → PW → Prop}
    (h0 : readSk l = none → K none false R Φ)
    (h1 : ∀ q st, readSk l = some st → SkQ q st → SkI st → SkS st 400000 → Stable (fun M w => Φ M w ∧ SkF q st M w) → K (some ⟨q.sb, 0, none⟩) true (SkO q st ++ R) (fun M w => Φ M w ∧ SkF q st M w)) :
    Calls Tryz.prog F.sink_Read #[.string (bs l)] w fun e w' => ∃ p ok, e = .returned (.tuple #[.pointer p, .bool ok]) ∧ ∃ R' Φ', Stable Φ' ∧ Ctx W w' (R' ++ G) Φ' ∧ K p ok R' Φ' := by
  refine (Bsink_Read_run (bs l) (R := R ++ G) (J := fun v w' => ∃ p ok, v = .tuple #[.pointer p, .bool ok] ∧ ∃ R' Φ', Stable Φ' ∧ Ctx W w' (R' ++ G) Φ' ∧ K p ok R' Φ') c ?_).mono fun e w' ⟨v, he, p, ok, hv, rest⟩ => ⟨p, ok, by rw [he, hv], rest⟩
  clear c
  have bad : readSk l = none → ∀ {w : World} {G2 : List Own}, Ctx W w ((R ++ G) ++ G2) Φ → ∃ p ok, Value.tuple #[.pointer none, .bool false] = .tuple #[.pointer p, .bool ok] ∧ ∃ R' Φ', Stable Φ' ∧ Ctx W w (R' ++ G) Φ' ∧ K p ok R' Φ' := fun h {w G2} cx => ⟨none, false, rfl, R, Φ, inferInstance, cx.left, h0 h⟩
  obtain ⟨T, hT⟩ : ∃ T, T = R ++ G := ⟨_, rfl⟩
  rw [← hT] at bad ⊢
  have hall : readSk l = if newOk (rdInt (l, false)).1 (numsK (rdInt (l, false)).2).1 = false then none else
    (readLinesK (numsK (numsK (rdInt (l, false)).2).2).2).bind fun d => (readLinesK (rdInt d.2).2).bind fun f => if rdDone f.2 = false then none else
      (batsK (numsK (numsK (rdInt (l, false)).2).2).1 d.1 (newK (rdInt (l, false)).1 (numsK (rdInt (l, false)).2).1)).bind fun g => finK l g.1 (rdInt d.2).1 (shiftL (g.1.lines.length : Int) f.1) := rfl
  obtain ⟨⟨kind, s1⟩, e1⟩ : ∃ x, rdInt (l, false) = x := ⟨_, rfl⟩
  have b1 : s1.1.length ≤ l.length := by have := rdInt_len (l, false); rw [e1] at this; exact this
  have hkind : I64 kind := by have := rdInt_i64 (l, false); rw [e1] at this; exact this
  rw [e1] at hall
  simp only at hall
  obtain ⟨⟨key, s2⟩, e2⟩ : ∃ x, numsK s1 = x := ⟨_, rfl⟩
  obtain ⟨b2, b2k⟩ := numsK_len e2
  rw [e2] at hall
  simp only at hall
  obtain ⟨⟨bats, s3⟩, e3⟩ : ∃ x, numsK s2 = x := ⟨_, rfl⟩
  obtain ⟨b3, b3k⟩ := numsK_len e3
  rw [e3] at hall
  simp only at hall
  refine fun w G2 cx => Open_use l cx fun b w cx => ⟨_, rfl, rd b (l, false) :: T, Φ, inferInstance, cx, ?_⟩
  clear cx
  refine fun w G2 cx => RInt_toE (S := T) hΦ (by show l.length ≤ _; omega) e1 cx ?_
  clear cx
  refine fun w G2 cx => Nums_to (S := T) hΦ (by omega) e2 cx fun kp kc g1 g2 st1 => ?_
  clear cx
  refine fun w G2 cx => New_to (R := rd b s2 :: T) (Φ := fun M w => Φ M w ∧ Sl M w kp key) (hΦ := ⟨fun M w h => h.2⟩) (kind := kind) (key := key) (by omega) cx (fun hno => ?_) (fun q0 hok hq0 st2 => ?_)
  · clear cx
    refine Br.intro (fun _ => fun w G2 cx => bad (by rw [hall, if_pos hno]) (G2 := G2) cx.drop1.fst) (fun h => by cases h)
  clear cx
  rw [if_neg (by rw [hok]; simp)] at hall
  obtain ⟨sb0, hsb0⟩ : ∃ x, q0.sb = x := ⟨_, rfl⟩
  rw [hsb0]
  refine Br.intro (fun h => by cases h) (fun _ => ?_)
  have hΦ2 : ∀ M w, ((Φ M w ∧ Sl M w kp key) ∧ SkF q0 (newK kind key) M w) → NumI M w := fun M w h => hΦ M w h.1.1
  refine fun w G2 cx => Nums_to (S := SkO q0 (newK kind key) ++ T) hΦ2 (by omega) e3 (Ctx.front cx) fun bp bc g3 g4 st3 => ?_
  clear cx
  obtain ⟨Φ3, hΦ3e⟩ : ∃ Ψ : PW, Ψ = fun M w => ((Φ M w ∧ Sl M w kp key) ∧ SkF q0 (newK kind key) M w) ∧ Sl M w bp bats := ⟨_, rfl⟩
  rw [← hΦ3e] at st3 ⊢
  have un3 : ∀ M w, Φ3 M w → (Φ M w ∧ SkF q0 (newK kind key) M w) ∧ Sl M w bp bats := fun M w h => by rw [hΦ3e] at h; exact ⟨⟨h.1.1.1, h.1.2⟩, h.2⟩
  have hΦ3 : ∀ M w, Φ3 M w → NumI M w := fun M w h => hΦ M w (un3 M w h).1.1
  intro w G2 cx
  have hthb : There bp bats.length := (un3 _ _ cx.phi).2.there
  refine readLines_to (S := SkO q0 (newK kind key) ++ T) hΦ3 (by omega) cx (fun hno s4 b4 => ?_) (fun l1 s4 lp lc lcs hl1 b4 hr1 hpt1 st4 => ?_)
  · clear cx
    obtain ⟨⟨pr, s5⟩, e5⟩ : ∃ x, rdInt s4 = x := ⟨_, rfl⟩
    have b5 : s5.1.length ≤ s4.1.length := by have := rdInt_len s4; rw [e5] at this; exact this
    have hnone : readSk l = none := by rw [hall, hno]; rfl
    refine fun w G2 cx => RInt_toE (S := SkO q0 (newK kind key) ++ T) hΦ3 (by omega) e5 cx ?_
    clear cx
    refine fun w G2 cx => readLines_to (S := SkO q0 (newK kind key) ++ T) hΦ3 (by omega) cx (fun _ s6 _ => ?_) (fun _ s6 _ _ _ _ _ _ _ st5 => ?_)
    · refine Br.intro (fun _ => fun w G2 cx => bad hnone (G2 := G2) ?_) (fun h => by cases h)
      exact (Ctx.dropF (Q := SkO q0 (newK kind key)) (T := T) cx.drop1).weak fun M w h => (un3 M w h).1.1
    · refine Br.intro (fun _ => fun w G2 cx => bad hnone (G2 := G2) ?_) (fun h => by cases h)
      exact (Ctx.dropF (Q := SkO q0 (newK kind key)) (T := T) cx.drop1.drop1).weak fun M w h => (un3 M w h.1).1.1
  clear cx
  rw [hl1] at hall
  simp only [Option.bind_some] at hall
  obtain ⟨⟨prep, s5⟩, e5⟩ : ∃ x, rdInt s4 = x := ⟨_, rfl⟩
  have b5 : s5.1.length ≤ s4.1.length := by have := rdInt_len s4; rw [e5] at this; exact this
  have hprep : I64 prep := by have := rdInt_i64 s4; rw [e5] at this; exact this
  rw [e5] at hall
  simp only at hall
  intro w G2 cx
  obtain ⟨cx1, hsl1, _, gl1, gl2⟩ := Ctx.freeze (α := LineD) cx cx.phi.2
  have hthl : There lp l1.length := hsl1.there
  have cx2 : Ctx W w ((rd b s4 :: (SkO q0 (newK kind key) ++ T)) ++ G2) (fun M w => Φ3 M w ∧ Sl M w lp l1) := (cx1.add hsl1).weak fun M w h => ⟨h.1.1, h.2⟩
  have hΦ4 : ∀ M w, (Φ3 M w ∧ Sl M w lp l1) → NumI M w := fun M w h => hΦ3 M w h.1
  refine RInt_toE (S := SkO q0 (newK kind key) ++ T) hΦ4 (by omega) e5 cx2 ?_
  clear cx2 cx1 hsl1 cx
  refine fun w G2 cx => readLines_to (S := SkO q0 (newK kind key) ++ T) hΦ4 (by omega) cx (fun hno s6 _ => ?_) (fun l2 s6 ap ac acs hl2 b6 hr2 hpt2 st6 => ?_)
  · clear cx
    refine Br.intro (fun h => by cases h) (fun _ => Br.intro (fun _ => fun w G2 cx => bad (by rw [hall, hno]; rfl) (G2 := G2) ?_) (fun h => by cases h))
    exact (Ctx.dropF (Q := SkO q0 (newK kind key)) (T := T) cx.drop1).weak fun M w h => (un3 M w h.1).1.1
  clear cx
  rw [hl2] at hall
  simp only [Option.bind_some] at hall
  have hnum2 : numK 1 l2 = true := num_from _ _ _ _ _ hl2 rfl
  refine Br.intro (fun h => by cases h) (fun _ => Br.intro (fun h => by cases h) (fun _ => fun w G2 cx => Done_to (S := bufL ap l2.length ac acs :: (SkO q0 (newK kind key) ++ T)) cx.swap ?_))
  clear cx
  refine Br.intro (fun hd => fun w G2 cx => bad (by rw [hall, if_pos (by simpa using hd)]) (G2 := G2) ?_) (fun hd => ?_)
  · exact (Ctx.dropF (Q := SkO q0 (newK kind key)) (T := T) cx.drop1.drop1).weak fun M w h => (un3 M w h.1.1).1.1
  rw [if_neg (by simpa using hd)] at hall
  -- the batches
  obtain ⟨T2, hT2⟩ : ∃ T2, T2 = rd b s6 :: bufL ap l2.length ac acs :: T := ⟨_, rfl⟩
  obtain ⟨Φc, hΦc⟩ : ∃ Ψ : PW, Ψ = fun M w => (Φ M w ∧ Sl M w bp bats) ∧ Elems M w acs l2 := ⟨_, rfl⟩
  have stc : Stable Φc := by rw [hΦc]; exact instStableAnd (fun M w => Φ M w ∧ Sl M w bp bats) (fun M w => Elems M w acs l2)
  have unc : ∀ M w, Φc M w → (Φ M w ∧ Sl M w bp bats) ∧ Elems M w acs l2 := fun M w h => by rw [hΦc] at h; exact h
  have badT : readSk l = none → ∀ {w : World} {G2 : List Own} {q : KP} {st : SkD} {Ψ : PW} [Stable Ψ], (∀ M w, Ψ M w → Φc M w) → Ctx W w ((SkO q st ++ T2) ++ G2) Ψ → _ := fun h {w G2 q st Ψ} _ hw cx => bad h (w := w) (G2 := G2) (by
    have c2 := Ctx.dropF (Q := SkO q st) (T := T2) cx
    rw [hT2] at c2
    exact (Ctx.drop1 (Ctx.drop1 c2)).weak fun M w h => (unc M w (hw M w h)).1.1)
  obtain ⟨INV, hI⟩ : ∃ INV : Option Addr → Nat → Nat → Int → List Own → PW → Nat → Prop, ∀ p n c kI R' Φ' m, INV p n c kI R' Φ' m ↔ ∃ (i : Nat) (rem : List LineD) (q : KP) (st : SkD), kI = i ∧ i ≤ bats.length ∧ n = rem.length ∧ n ≤ c ∧ There p rem.length ∧ R' = SkO q st ++ T2 ∧ Φ' = (fun M w => (Φc M w ∧ SkF q st M w) ∧ Sl M w p rem) ∧ m = bats.length - i ∧ q.sb = sb0 ∧ SkQ q st ∧ SkI st ∧ RdK kind key i rem.length l1.length st ∧ batsK bats l1 (newK kind key) = batsK (bats.drop i) rem st := ⟨_, fun _ _ _ _ _ _ _ => Iff.rfl⟩
  refine ⟨INV, ⟨SkO q0 (newK kind key) ++ T2, fun M w => (Φc M w ∧ SkF q0 (newK kind key) M w) ∧ Sl M w lp l1, _, inferInstance, fun w G2 cx => ?_, (hI _ _ _ _ _ _ _).2 ⟨0, l1, q0, newK kind key, rfl, Nat.zero_le _, rfl, gl1, hthl, rfl, rfl, rfl, hsb0, hq0, new_i kind key, ⟨rfl, rfl, rfl, rfl, rfl, Nat.zero_add _⟩, rfl⟩⟩, ?_⟩
  · have c2 : Ctx W w (([rd b s6, bufL ap l2.length ac acs] ++ (SkO q0 (newK kind key) ++ T)) ++ G2) _ := cx
    have c3 := Ctx.swapU c2
    rw [hT2]
    exact c3.weak fun M w h => by
      have h3 := un3 M w h.1.1
      rw [hΦc]
      exact ⟨⟨⟨⟨h3.1.1, h3.2⟩, h.2⟩, h3.1.2⟩, h.1.2⟩
  intro p n c kI R1 Φ1 m _ hinv
  obtain ⟨i, rem, q, st, rfl, hi, rfl, hnc, hthr, rfl, rfl, rfl, hsb, hq, hI1, hk1, hbk⟩ := (hI _ _ _ _ _ _ _).1 hinv
  clear hinv
  have hkl := hk1.lines
  have hkb := hk1.bats
  have hs : SkS st 400000 := ⟨by omega, by omega, by rw [hk1.aside]; exact Nat.zero_le _, by rw [hk1.key]; omega⟩
  have stF : Stable (fun M w => Φc M w ∧ SkF q st M w) := inferInstance
  have st8 : Stable (fun M w => (Φc M w ∧ SkF q st M w) ∧ Sl M w p rem) := inferInstance
  have hF : Has (fun M w => (Φc M w ∧ SkF q st M w) ∧ Sl M w p rem) (SkF q st) := ⟨fun M w h => h.1.2⟩
  refine Br.intro (fun hlt => ?_) (fun hge => ?_)
  · have hlt : i < bats.length := by have := of_decide_eq_true hlt; omega
    obtain ⟨bb, bo, hbp⟩ := hthb (by omega)
    rw [List.drop_eq_getElem_cons hlt] at hbk
    obtain ⟨bt, hbt⟩ : ∃ x, bats[i] = x := ⟨_, rfl⟩
    rw [hbt] at hbk
    refine ⟨by omega, ptrK_intro bb bo hbp fun w G2 cx => ⟨bt, ?_, ?_⟩⟩
    · have := (unc _ _ cx.phi.1.1).1.2
      rw [hbp] at this
      have h2 := sl_int this hlt
      rw [hbt] at h2
      exact h2
    have hbi : I64 bt := by
      rw [← hbt]
      exact slz_i64 (unc _ _ cx.phi.1.1).1.2 _ (List.getElem_mem hlt)
    clear cx
    refine exI_mk (fun nI R' Φ' k => ∃ j : Nat, nI = j ∧ j ≤ rem.length ∧ (∀ x ∈ rem.take j, x.batch = bt) ∧ R' = SkO q st ++ T2 ∧ Φ' = (fun M w => (Φc M w ∧ SkF q st M w) ∧ Sl M w p rem) ∧ k = rem.length - j) ⟨⟨_, _, _, st8, fun w G cx => cx, 0, rfl, Nat.zero_le _, by simp, rfl, rfl, rfl⟩, ?_⟩
    rintro nI R2 Φ2 k2 _ ⟨j, rfl, hj, hjb, rfl, rfl, rfl⟩
    refine fun w G2 cx => ⟨fun h => by have := of_decide_eq_true h; omega, ptrK_of (fun h => hthr (by have := of_decide_eq_true h; omega)) fun b2 o2 hb2 => ⟨(rem[j]?.map LineD.batch).getD 0, fun h => ?_, ?_⟩⟩
    · have hjl : j < rem.length := by have := of_decide_eq_true h; omega
      have h2 := cx.phi.2
      rw [hb2 h] at h2
      have h3 := sl_batch h2 hjl
      rw [List.getElem?_eq_getElem hjl, Int.toNat_natCast]
      exact h3
    clear cx hb2
    refine Br.intro (fun hin => ⟨by unfold I64; omega, _, _, rem.length - (j + 1), st8, fun w G cx => cx, ⟨j + 1, rfl, ?_, ?_, rfl, rfl, rfl⟩, ?_⟩) (fun hout => ?_)
    · rw [Bool.and_eq_true] at hin
      have := of_decide_eq_true hin.1; omega
    · rw [Bool.and_eq_true] at hin
      have hjl : j < rem.length := by have := of_decide_eq_true hin.1; omega
      have h2 := of_decide_eq_true hin.2
      rw [List.getElem?_eq_getElem hjl] at h2
      intro x hx
      rw [List.take_succ_eq_append_getElem hjl] at hx
      rcases List.mem_append.1 hx with hx | hx
      · exact hjb x hx
      · rw [List.mem_singleton.1 hx]; exact h2
    · rw [Bool.and_eq_true] at hin
      have := of_decide_eq_true hin.1; omega
    have hne : ∀ h : j < rem.length, rem[j].batch ≠ bt := fun h e => by
      rcases Bool.and_eq_false_iff.1 hout with h2 | h2
      · have := of_decide_eq_false h2; omega
      · have h2 := of_decide_eq_false h2
        rw [List.getElem?_eq_getElem h] at h2
        exact h2 e
    obtain ⟨hh1, hh2⟩ := head_take hj hjb hne
    have hbs : batsK (bt :: bats.drop (i + 1)) rem st = if lookK st bt (headK bt rem) = 0 then batsK (bats.drop (i + 1)) (restK bt rem) (takeK st bt (headK bt rem)) else none := rfl
    rw [hh1, hh2] at hbs
    rw [hbs] at hbk
    have hjt : j = (rem.take j).length := by rw [List.length_take]; omega
    have hjn : ((j : Int)).toNat = (rem.take j).length := by rw [Int.toNat_natCast]; exact hjt
    have hL : Has (fun M w => (Φc M w ∧ SkF q st M w) ∧ Sl M w p rem) (fun M w => Sl M w (subPtr p 7 0 c) (rem.take j)) := ⟨fun M w h => by rw [subPtr_z]; exact sl_take h.2 j⟩
    refine ⟨by omega, fun w G2 cx => ?_⟩
    rw [hjn, ← hsb]
    refine (Look_to hq hs (by omega) (by rw [← hjt]; omega)).toI (R := T2) cx ?_
    clear cx
    refine Br.intro (fun hz => fun w G2 cx => badT (by rw [hall, hbk, if_neg (of_decide_eq_true hz)]; rfl) (fun M w h => h.1.1) cx) (fun hz => ?_)
    have hz := Decidable.not_not.1 (of_decide_eq_false hz)
    rw [if_pos hz] at hbk
    obtain ⟨gz1, gz2, gz3, _⟩ := look_ok (by rw [hz]; simp)
    refine ⟨by omega, fun w G2 cx => take_use (R := T2) (b := bt) (L := rem.take j) hq hs (by omega) (by rw [← hjt]; omega) cx fun q' hsb' hq' st9 => ?_⟩
    clear cx
    have hdl : (rem.drop j).length = rem.length - j := List.length_drop
    rw [← hjt]
    refine ⟨by omega, by unfold I64; omega, SkO q' (takeK st bt (rem.take j)) ++ T2, (fun M w => (Φc M w ∧ SkF q' (takeK st bt (rem.take j)) M w) ∧ Sl M w (subPtr p 7 j c) (rem.drop j)), _, inferInstance, fun w G2 cx => cx.weak fun M w h => ⟨⟨h.1.1.1, h.2⟩, addr_sub h.1.2 j hnc⟩, (hI _ _ _ _ _ _ _).2 ⟨i + 1, rem.drop j, q', takeK st bt (rem.take j), by omega, hlt, hdl.symm, by omega, there_sub hthr, rfl, rfl, rfl, by rw [hsb', hsb], hq', take_i hI1 gz2 gz1 hbi (fun x hx => (bad_right (gz3 x hx)).2.2.1), ⟨hk1.kind, hk1.key, hk1.prep, hk1.aside, ?_, ?_⟩, hbk⟩, by omega⟩
    · show (st.bats ++ [bt]).length = _
      rw [List.length_append, List.length_singleton]; omega
    · show (st.lines ++ rem.take j).length + _ = _
      rw [List.length_append, ← hjt, hdl]; omega
  · have hge : i = bats.length := by have := of_decide_eq_false hge; omega
    rw [hge, List.drop_length] at hbk
    have hbk : batsK bats l1 (newK kind key) = some (st, rem) := hbk
    rw [hbk] at hall
    simp only [Option.bind_some] at hall
    obtain ⟨A, hA⟩ : ∃ A, shiftL (st.lines.length : Int) l2 = A := ⟨_, rfl⟩
    have hAl : A.length = l2.length := by rw [← hA, shift_len]
    have stP : Stable (fun M w => Φ M w ∧ SkF q st M w) := inferInstance
    -- the numbers of the lines aside
    refine exI_mk (fun nI R' Φ' k => ∃ (x : Nat) (cs : List Value), nI = x ∧ x ≤ l2.length ∧ R' = bufL ap l2.length ac cs :: (SkO q st ++ (rd b s6 :: T)) ∧ Φ' = (fun M w => (Φ M w ∧ SkF q st M w) ∧ Elems M w cs (shiftL (st.lines.length : Int) (l2.take x) ++ l2.drop x)) ∧ k = l2.length - x) ⟨⟨bufL ap l2.length ac acs :: (SkO q st ++ (rd b s6 :: T)), fun M w => (Φ M w ∧ SkF q st M w) ∧ Elems M w acs l2, _, instStableAnd (fun M w => Φ M w ∧ SkF q st M w) (fun M w => Elems M w acs l2), fun w G2 cx => ?_, 0, acs, rfl, Nat.zero_le _, rfl, rfl, rfl⟩, ?_⟩
    · rw [hT2] at cx
      have c2 : Ctx W w (((SkO q st ++ [rd b s6]) ++ (bufL ap l2.length ac acs :: T)) ++ G2) _ := cx.re (by simp)
      have c3 := Ctx.front c2
      have c4 : Ctx W w ((bufL ap l2.length ac acs :: (SkO q st ++ (rd b s6 :: T))) ++ G2) _ := c3.re (by simp)
      exact c4.weak fun M w h => ⟨⟨(unc M w h.1.1).1.1, h.1.2⟩, (unc M w h.1.1).2⟩
    rintro nI R2 Φ2 k2 _ ⟨x, acs2, rfl, hx, rfl, rfl, rfl⟩
    have st10 : Stable (fun M w => (Φ M w ∧ SkF q st M w) ∧ Elems M w acs2 (shiftL (st.lines.length : Int) (l2.take x) ++ l2.drop x)) := instStableAnd (fun M w => Φ M w ∧ SkF q st M w) (fun M w => Elems M w acs2 (shiftL (st.lines.length : Int) (l2.take x) ++ l2.drop x))
    refine Br.intro (fun hlt => ?_) (fun hge2 => ?_)
    · have hlt : x < l2.length := by have := of_decide_eq_true hlt; omega
      obtain ⟨g, hg⟩ := hpt2 (by omega)
      have hy := shift_at (m := (st.lines.length : Int)) hlt
      have hno := num_at hlt hnum2
      have hl2 : (shiftL (st.lines.length : Int) (l2.take x) ++ l2.drop x).length = l2.length := by rw [List.length_append, shift_len, List.length_take, List.length_drop]; omega
      have hyl : x < (shiftL (st.lines.length : Int) (l2.take x) ++ l2.drop x).length := by omega
      have hye : (shiftL (st.lines.length : Int) (l2.take x) ++ l2.drop x)[x] = l2[x] := Option.some.inj (by rw [← List.getElem?_eq_getElem hyl]; exact hy)
      rw [← hsb]
      refine ⟨by omega, ptrK_intro g 0 hg (ptrK_intro q.sb 0 rfl fun w G2 cx => ⟨l2[x].no, ?_, fun w G2 cx => ⟨_, _, _, cx.get 1 rfl rfl, by rw [hno]; unfold I64; omega, by omega, ptrK_intro g 0 hg fun w G2 cx => ⟨?_, fun w2 hw2 => ?_⟩⟩⟩)⟩
      · obtain ⟨rp, rc, he, _⟩ := lrow cx.phi.2 hyl
        rw [hye] at he
        rw [hg] at cx
        have := l_at (S := (SkO q st ++ (rd b s6 :: T)) ++ G2) cx he 0 (by show 0 < 7; decide)
        rw [show 0 + (x : Int).toNat * 7 = x * 7 + 0 by omega]
        exact this
      · have hcl := elems_len7 cx.phi.2
        rw [hg] at cx
        exact l_can (S := (SkO q st ++ (rd b s6 :: T)) ++ G2) cx (by omega)
      · rw [hg] at cx
        obtain ⟨cs3, cx3⟩ := sk_cellI (S := (SkO q st ++ (rd b s6 :: T)) ++ G2) (Φ := fun M w => Φ M w ∧ SkF q st M w) (k := 0) (w' := w2) (v := .int .i64 (l2[x].no + st.lines.length)) cx { l2[x] with no := l2[x].no + st.lines.length } hy (by decide) rfl (fun p c => rfl) (fun h => ⟨by show I64 (l2[x].no + (st.lines.length : Int)); rw [hno]; unfold I64; omega, h.batch, h.time, h.n, h.cause, h.why⟩) (by rw [hw2]; congr 2; omega)
        rw [shift_step hlt, ← hg] at cx3
        exact ⟨bufL ap l2.length ac cs3 :: (SkO q st ++ (rd b s6 :: T)), _, instStableAnd (fun M w => Φ M w ∧ SkF q st M w) (fun M w => Elems M w cs3 (shiftL (st.lines.length : Int) (l2.take (x + 1)) ++ l2.drop (x + 1))), cx3, by unfold I64; omega, _, _, l2.length - (x + 1), instStableAnd (fun M w => Φ M w ∧ SkF q st M w) (fun M w => Elems M w cs3 (shiftL (st.lines.length : Int) (l2.take (x + 1)) ++ l2.drop (x + 1))), fun w G cx => cx, ⟨x + 1, cs3, by omega, hlt, rfl, rfl, rfl⟩, by omega⟩
    · have hge2 : x = l2.length := by have := of_decide_eq_false hge2; omega
      subst hge2
      rw [List.take_length, List.drop_length, List.append_nil] at st10 ⊢
      rw [hA] at hall st10 ⊢
      have badP : readSk l = none → ∀ {w : World} {G2 : List Own} {q : KP} {st : SkD} {Ψ : PW} [Stable Ψ], (∀ M w, Ψ M w → Φ M w) → Ctx W w ((SkO q st ++ (rd b s6 :: T)) ++ G2) Ψ → _ := fun h {w G2 q st Ψ} _ hw cx => bad h (w := w) (G2 := G2) ((Ctx.drop1 (Ctx.dropF (Q := SkO q st) (T := rd b s6 :: T) cx)).weak hw)
      -- the end
      have fin : ∀ {q' : KP} {s' : SkD} {Ψ : PW} {U : List Own}, Stable Ψ → (∀ (w : World) (G2 : List Own), Ctx W w (U ++ G2) Ψ → Ctx W w ((SkO q' s' ++ (rd b s6 :: T)) ++ G2) Ψ) → (∀ M w, Ψ M w → Φ M w ∧ SkF q' s' M w) → q'.sb = sb0 → SkQ q' s' → SkI s' → SkS s' 400000 → I64 s'.kind → I64 s'.prep → readSk l = (if s'.prep = prep ∧ (skB s').data.toList = l then some s' else none) →
          ptrK none (some ⟨sb0, 0, none⟩) fun (a1 b1 : Nat) => ∀ (w : World) (G2 : List Own), Ctx W w (U ++ G2) Ψ → ∃ n : Int, w.cell? ⟨a1, b1 + 4, none⟩ = some (.int .i64 n) ∧
            Br (decide (n ≠ prep)) (∀ (w : World) (G2 : List Own), Ctx W w (U ++ G2) Ψ → ∃ p ok, Value.tuple #[.pointer none, .bool false] = .tuple #[.pointer p, .bool ok] ∧ ∃ R' Φ', Stable Φ' ∧ Ctx W w (R' ++ G) Φ' ∧ K p ok R' Φ')
              (∀ (w : World) (G2 : List Own), Ctx W w (U ++ G2) Ψ → Calls Tryz.prog F.sink_Sink_Bytes #[.pointer (some ⟨sb0, 0, none⟩)] w fun e w' => ∃ s : ByteArray, e = .returned (.string s) ∧ ∃ (R2 : List Own) (Φ2 : PW), Stable Φ2 ∧ Ctx W w' (R2 ++ G2) Φ2 ∧
                Br (decide (s ≠ bs l)) (∀ (w : World) (F1 : List Own), Ctx W w (R2 ++ F1) Φ2 → ∃ p ok, (Value.tuple #[.pointer none, .bool false]) = .tuple #[.pointer p, .bool ok] ∧ ∃ R' Φ', Stable Φ' ∧ Ctx W w (R' ++ G) Φ' ∧ K p ok R' Φ')
                  (∀ (w : World) (F1 : List Own), Ctx W w (R2 ++ F1) Φ2 → ∃ p ok, (Value.tuple #[.pointer (some ⟨sb0, 0, none⟩), .bool true]) = .tuple #[.pointer p, .bool ok] ∧ ∃ R' Φ', Stable Φ' ∧ Ctx W w (R' ++ G) Φ' ∧ K p ok R' Φ')) := by
        intro q' s' Ψ U stΨ toU hw hsb' hq' hI' hs' hk' hp' hr
        have hT' : Has Ψ TabI := ⟨fun M w h => (hΦ M w (hw M w h).1).1⟩
        have hF' : Has Ψ (SkF q' s') := ⟨fun M w h => (hw M w h).2⟩
        rw [← hsb']
        refine ptrK_intro q'.sb 0 rfl fun w G2 cx => ⟨s'.prep, (toU w G2 cx).get 0 rfl rfl, ?_⟩
        have hW : SkW s' := sk_w hI' hk' hp' (hw _ _ cx.phi).2
        clear cx
        refine Br.intro (fun h => fun w G2 cx => badP (by rw [hr, if_neg fun e => of_decide_eq_true h e.1]) (fun M w h => (hw M w h).1) (toU w G2 cx)) (fun h => fun w G2 cx => (Bytes_q hq' hW hs' (by omega)).toS (R := rd b s6 :: T) (toU w G2 cx) ?_)
        clear cx
        have hpr := Decidable.not_not.1 (of_decide_eq_false h)
        refine Br.intro (fun h2 => fun w G2 cx => badP (by rw [hr, if_neg fun e => of_decide_eq_true h2 (by rw [← e.2]; rfl)]) (fun M w h => (hw M w h).1) cx) (fun h2 => fun w G2 cx => ?_)
        have hsome : readSk l = some s' := by
          rw [hr, if_pos ⟨hpr, by rw [Decidable.not_not.1 (of_decide_eq_false h2)]; rfl⟩]
        have stg : Stable (fun M w => Φ M w ∧ SkF q' s' M w) := inferInstance
        refine ⟨_, _, rfl, SkO q' s' ++ R, _, stg, ?_, h1 q' s' hsome hq' hI' hs' stg⟩
        rw [hT] at cx
        have c2 : Ctx W w ((rd b s6 :: (SkO q' s' ++ (R ++ G))) ++ G2) Ψ := Ctx.front cx
        exact ((Ctx.drop1 c2).left.re (by simp)).weak hw
      refine Br.intro (fun hp0 => fun w G2 cx => ?_) (fun hp0 => ?_)
      · have hp0 := of_decide_eq_true hp0
        obtain ⟨cx1, hslA, _, ga1, ga2⟩ := Ctx.freeze (α := LineD) cx cx.phi.2
        have cx2 : Ctx W w ((SkO q st ++ (rd b s6 :: T)) ++ G2) (fun M w => (Φ M w ∧ SkF q st M w) ∧ Sl M w ap A) := (cx1.add hslA).weak fun M w h => ⟨h.1.1, h.2⟩
        clear cx cx1 hslA
        have hFq : Has (fun M w => (Φ M w ∧ SkF q st M w) ∧ Sl M w ap A) (SkF q st) := ⟨fun M w h => h.1.2⟩
        have hLA : Has (fun M w => (Φ M w ∧ SkF q st M w) ∧ Sl M w ap A) (fun M w => Sl M w ap A) := ⟨fun M w h => h.2⟩
        have stA : Stable (fun M w => (Φ M w ∧ SkF q st M w) ∧ Sl M w ap A) := inferInstance
        obtain ⟨m, s', hm⟩ : ∃ m s', prepK st prep A = (m, s') := ⟨_, _, rfl⟩
        have hfin : finK l st prep A = if m = 0 ∧ s'.prep = prep ∧ (skB s').data.toList = l then some s' else none := by unfold finK; rw [if_neg hp0, hm]
        have hi' : SkI s' := by have := prep_i hI1 (b := prep) (L := A); rw [hm] at this; exact this
        have hkp : SkS s' 400000 ∧ I64 s'.kind ∧ I64 s'.prep := by
          rcases prep_cases st prep A with ⟨e, _⟩ | ⟨_, _, _, e⟩
          · rw [hm] at e
            have e : s' = st := e
            rw [e, hk1.kind, hk1.prep]
            exact ⟨hs, hkind, by unfold I64; omega⟩
          · rw [hm] at e
            have e := (Prod.ext_iff.1 e).2
            have e : s' = { st with prep := prep, aside := A } := e
            rw [e]
            exact ⟨⟨hs.bats, hs.lines, by show A.length ≤ _; omega, hs.key⟩, by show I64 st.kind; rw [hk1.kind]; exact hkind, hprep⟩
        rw [hfin] at hall
        rw [← hsb, ← hAl]
        refine Prepare_use (R := rd b s6 :: T) (b := prep) (L := A) hq hI1 hs (by omega) (by omega) cx2 fun q' hsb' hq' st11 => ?_
        clear cx2
        rw [hm] at hq' st11 ⊢
        have hq' : SkQ q' s' := hq'
        have st11 : Stable (fun M w => ((Φ M w ∧ SkF q st M w) ∧ Sl M w ap A) ∧ SkF q' s' M w) := st11
        refine Br.intro (fun h => fun w G2 cx => badP (by rw [hall, if_neg fun e => of_decide_eq_true h e.1]) (fun M w h => h.1.1.1) cx) (fun h => ?_)
        have hm0 : m = 0 := Decidable.not_not.1 (of_decide_eq_false h)
        rw [hsb]
        exact fin st11 (fun w G2 cx => cx) (fun M w h => ⟨h.1.1.1, h.2⟩) (by rw [hsb', hsb]) hq' hi' hkp.1 hkp.2.1 hkp.2.2 (by rw [hall, hm0]; simp only [true_and])
      · have hp0 := Decidable.not_not.1 (of_decide_eq_false hp0)
        have hfin : finK l st prep A = if st.prep = prep ∧ (skB st).data.toList = l then some st else none := by unfold finK; rw [if_pos hp0]; simp only [true_and]
        rw [hfin] at hall
        exact fin st10 (fun w G2 cx => cx.drop1) (fun M w h => h.1) hsb hq hI1 hs (by rw [hk1.kind]; exact hkind) (by rw [hk1.prep]; unfold I64; omega) hall
end
end Go.Proofs.YtemhapmbcbbljaaGreatDoor
end

section
namespace Go.Proofs.YtemhapmbcbbljaaGreatDoor
open Go.Vc
abbrev ValD.cells (x : ValD) : List Value := [.int .i64 x.kind, .int .i64 x.num, .string x.text]
theorem val_rep {M : List Nat} {w : World} {v : ValD} (h : (I64 v.kind ∧ I64 v.num) ∧ v.text.size ≤ maxLen) : Gv.rep M w v.cells v :=
  ⟨[.int .i64 v.kind], [.int .i64 v.num, .string v.text], rfl, ⟨rfl, h.1.1⟩, [.int .i64 v.num], [.string v.text], rfl, ⟨rfl, h.1.2⟩, rfl, h.2⟩
section
variable {Φ : PW} {p q : Option Addr} {cap cap2 : Nat} {r a b : List ValD} {W w : World} {R G : List Own}
end
end Go.Proofs.YtemhapmbcbbljaaGreatDoor
end

section
namespace Go.Proofs.YtemhapmbcbbljaaGreatDoor
open Go.Vc
abbrev vN (no : Int) : List ValD := [⟨0, no, ByteArray.mk #[]⟩]
abbrev lineD (no b : Int) : LineD := ⟨no, b, no, vN no, 1, 0, 0⟩
theorem vN_rep {M : List Nat} {w : World} {no : Int} (h : I64 no) : Gv.rep M w [.int .i64 0, .int .i64 no, .string (ByteArray.mk #[])] (⟨0, no, ByteArray.mk #[]⟩ : ValD) := val_rep (v := ⟨0, no, ByteArray.mk #[]⟩) ⟨⟨by show I64 0; unfold I64; decide, h⟩, by show (ByteArray.mk #[]).size ≤ maxLen; decide⟩
theorem lineD_rep {M : List Nat} {w : World} {no b : Int} {p : Option Addr} {c : Nat} (h : I64 no ∧ I64 b) (hc : 1 ≤ c ∧ c ≤ maxLen) (hs : Sl M w p (vN no)) : Gv.rep M w [.int .i64 no, .int .i64 b, .int .i64 no, .slice p 1 c, .int .i64 1, .int .i64 0, .int .i64 0] (lineD no b) :=
  rep_line (x := lineD no b) hc.1 hc.2 ⟨h.1, h.2, h.1, by show I64 1; unfold I64; omega, by show I64 0; unfold I64; omega, by show I64 0; unfold I64; omega⟩ hs
theorem Ctx.swapQ {W w : World} {A B R G : List Own} {Φ : PW} [Stable Φ] (c : Ctx W w ((A ++ (B ++ R)) ++ G) Φ) : Ctx W w ((B ++ (A ++ R)) ++ G) Φ := c.perm (by
  simp only [List.append_assoc]
  rw [← List.append_assoc, ← List.append_assoc B A]
  exact List.Perm.append_right _ List.perm_append_comm)
section
variable {Φ : PW} {q : KP} {st : SkD} {W w : World} {R S G : List Own} {p : Option Addr} {cap : Nat} {L : List LineD}
theorem line_to [Stable Φ] {no b : Int} (h : I64 no) (c : Ctx W w (R ++ G) Φ) {K : Int → Int → Int → Option Addr → Nat → Nat → Int → Int → Int → List Own → PW → Prop}
    (hk : ∀ k, Stable (fun M w => Φ M w ∧ Sl M w (some ⟨k, 0, none⟩) (vN no)) → K no b no (some ⟨k, 0, none⟩) 1 1 1 0 0 R (fun M w => Φ M w ∧ Sl M w (some ⟨k, 0, none⟩) (vN no))) :
    Calls Tryz.prog F.erratalaw43_line #[.int .i64 no, .int .i64 b] w fun e w' => ∃ n1 n2 n3 p k1 k2 n4 n5 n6, e = .returned (.agg #[.int .i64 n1, .int .i64 n2, .int .i64 n3, .slice p k1 k2, .int .i64 n4, .int .i64 n5, .int .i64 n6]) ∧ ∃ R' Φ', Stable Φ' ∧ Ctx W w' (R' ++ G) Φ' ∧ K n1 n2 n3 p k1 k2 n4 n5 n6 R' Φ' := by
  refine (Berratalaw43_line_run no b (R := R ++ G) (J := fun v w' => ∃ n1 n2 n3 p k1 k2 n4 n5 n6, v = .agg #[.int .i64 n1, .int .i64 n2, .int .i64 n3, .slice p k1 k2, .int .i64 n4, .int .i64 n5, .int .i64 n6] ∧ ∃ R' Φ', Stable Φ' ∧ Ctx W w' (R' ++ G) Φ' ∧ K n1 n2 n3 p k1 k2 n4 n5 n6 R' Φ') c ?_).mono fun e w' ⟨v, he, n1, n2, n3, p, k1, k2, n4, n5, n6, hv, rest⟩ => ⟨n1, n2, n3, p, k1, k2, n4, n5, n6, by rw [he, hv], rest⟩
  clear c
  intro _ k w2 G2 cx
  obtain ⟨c2, h2⟩ := Ctx.freezeBlk (α := ValD) (l := vN no) cx (Elems.one (vN_rep h))
  have c3 := c2.add (Ψ := fun M w => Sl M w (some ⟨k, 0, none⟩) (vN no)) h2
  exact ⟨_, _, _, _, _, _, _, _, _, rfl, R, _, inferInstance, c3.left, hk k inferInstance⟩
theorem Deliver_at [Stable Φ] {b m : Int} {st' : SkD} (he : delivK st b L = (m, st')) [hF : Has Φ (SkF q st)] [hL : Has Φ (fun M w => Sl M w p L)] (hq : SkQ q st) (hI : SkI st) {n : Nat} (hs : SkS st n) (hn : n ≤ 400000) (hlen : L.length ≤ 400000) (c : Ctx W w ((SkO q st ++ R) ++ G) Φ) {K : Int → List Own → PW → Prop}
    (hk : ∀ q' : KP, q'.sb = q.sb → SkQ q' st' → Stable (fun M w => Φ M w ∧ SkF q' st' M w) → K m (SkO q' st' ++ R) (fun M w => Φ M w ∧ SkF q' st' M w)) :
    Calls Tryz.prog F.sink_Sink_Deliver #[snk q, .int .i64 b, .slice p L.length cap] w fun e w' => ∃ n, e = .returned (.int .i64 n) ∧ ∃ R' Φ', Stable Φ' ∧ Ctx W w' (R' ++ G) Φ' ∧ K n R' Φ' :=
  Deliver_use hq hI hs hn hlen c (by rw [he]; exact hk)
end
abbrev sK0 : SkD := newK 2 []
abbrev sLa : List LineD := [lineD 3 5]
abbrev sLb : List LineD := [lineD 1 3, lineD 2 3]
abbrev sKa : SkD := takeK sK0 3 sLb
abbrev sKb : SkD := takeK sKa 5 sLa
theorem s_l1 : lookK sK0 5 sLa = 25 := by decide +kernel
theorem s_l2 : lookK sK0 3 sLb = 0 := by decide +kernel
theorem s_l3 : lookK sKa 5 sLa = 0 := by decide +kernel
theorem s_l4 : lookK sKb 4 [] = 25 := by decide +kernel
theorem s_d1 : delivK sK0 5 sLa = (25, sK0) := by
  unfold delivK
  rw [if_neg (by decide), if_neg (by decide), if_pos (by rw [s_l1]; decide), s_l1]
theorem s_d2 : delivK sK0 3 sLb = (0, sKa) := by
  unfold delivK
  rw [if_neg (by decide), if_neg (by decide), if_neg (by rw [s_l2]; decide)]
theorem s_d3 : delivK sKa 5 sLa = (0, sKb) := by
  unfold delivK
  rw [if_neg (by decide), if_neg (by decide), if_neg (by rw [s_l3]; decide)]
theorem s_d4 : delivK sKb 4 [] = (25, sKb) := by
  unfold delivK
  rw [if_neg (by decide), if_neg (by decide), if_pos (by rw [s_l4]; decide), s_l4]
theorem s_ia : SkI sKa := by
  have := deliv_i (new_i 2 []) (b := 3) (L := sLb) (by unfold I64; decide)
  rw [s_d2] at this
  exact this
theorem s_ib : SkI sKb := by
  have := deliv_i s_ia (b := 5) (L := sLa) (by unfold I64; decide)
  rw [s_d3] at this
  exact this
theorem s_s0 : SkS sK0 10 := ⟨by decide, by decide, by decide, by decide⟩
theorem s_sa : SkS sKa 10 := ⟨by decide, by decide, by decide, by decide⟩
theorem s_sb : SkS sKb 10 := ⟨by decide, by decide, by decide, by decide⟩
theorem nilZ {M : List Nat} {w : World} : Sl M w none ([] : List Int) := fun i hi => absurd hi (by simp)
theorem nilL {M : List Nat} {w : World} : Sl M w none ([] : List LineD) := fun i hi => absurd hi (by simp)
set_option maxHeartbeats 4000000 in
theorem small43_in {Φ : PW} [Stable Φ] : GivesIn Φ Tryz.prog F.erratalaw43_small #[] (.bool true) := by
  refine gives_in (Berratalaw43_small_run) fun W R => ?_
  have hz : ∀ Ψ : PW, Has Ψ (fun M w => Sl M w none ([] : List Int)) := fun Ψ => ⟨fun M w _ => nilZ⟩
  have hzl : ∀ Ψ : PW, Has Ψ (fun M w => Sl M w none ([] : List LineD)) := fun Ψ => ⟨fun M w _ => nilL⟩
  refine fun w G cx => New_to (hΦ := hz _) (key := []) (kind := 2) (by decide) cx (fun h => absurd h (by decide)) fun q1 _ hq1 st1 => ?_
  clear cx
  refine fun w G cx => New_to (hΦ := hz _) (key := []) (kind := 2) (by decide) cx (fun h => absurd h (by decide)) fun q2 _ hq2 st2 => ?_
  clear cx
  refine fun w G cx => Br.intro (fun h => by cases h) (fun _ => ?_)
  refine fun w G cx => line_to (no := 3) (b := 5) (by unfold I64; decide) (Ctx.swapQ cx) fun k1 st3 => ?_
  clear cx
  intro k33 w G cx
  obtain ⟨ca, ha⟩ := Ctx.freezeBlk (α := LineD) (l := sLa) cx (Elems.one (lineD_rep (by unfold I64; decide) (by decide) cx.phi.2))
  have ca := ca.add (Ψ := fun M w => Sl M w (some ⟨k33, 0, none⟩) sLa) ha
  clear cx ha
  refine Deliver_at (q := q1) (st := sK0) (L := sLa) (b := 5) s_d1 hq1 (new_i 2 []) s_s0 (by decide) (by decide) ca fun q3 hsb3 hq3 st4 => ?_
  clear ca
  rw [← hsb3]
  refine fun w G cx => line_to (no := 1) (b := 3) (by unfold I64; decide) cx fun k2 st5 => ?_
  clear cx
  refine fun w G cx => line_to (no := 2) (b := 3) (by unfold I64; decide) cx fun k3 st6 => ?_
  clear cx
  intro k71 w G cx
  obtain ⟨ca, ha⟩ := Ctx.freezeBlk (α := LineD) (l := sLb) cx (Elems.two (cs := [.int .i64 1, .int .i64 3, .int .i64 1, .slice (some ⟨k2, 0, none⟩) 1 1, .int .i64 1, .int .i64 0, .int .i64 0]) (lineD_rep (by unfold I64; decide) (by decide) cx.phi.1.2) (lineD_rep (by unfold I64; decide) (by decide) cx.phi.2))
  have ca := ca.add (Ψ := fun M w => Sl M w (some ⟨k71, 0, none⟩) sLb) ha
  clear cx ha
  refine Deliver_at (q := q3) (st := sK0) (L := sLb) (b := 3) s_d2 hq3 (new_i 2 []) s_s0 (by decide) (by decide) ca fun q4 hsb4 hq4 st7 => ?_
  clear ca
  refine fun w G cx => line_to (no := 1) (b := 3) (by unfold I64; decide) (Ctx.swapQ cx) fun k4 st8 => ?_
  clear cx
  refine fun w G cx => line_to (no := 2) (b := 3) (by unfold I64; decide) cx fun k5 st9 => ?_
  clear cx
  intro k109 w G cx
  obtain ⟨ca, ha⟩ := Ctx.freezeBlk (α := LineD) (l := sLb) cx (Elems.two (cs := [.int .i64 1, .int .i64 3, .int .i64 1, .slice (some ⟨k4, 0, none⟩) 1 1, .int .i64 1, .int .i64 0, .int .i64 0]) (lineD_rep (by unfold I64; decide) (by decide) cx.phi.1.2) (lineD_rep (by unfold I64; decide) (by decide) cx.phi.2))
  have ca := ca.add (Ψ := fun M w => Sl M w (some ⟨k109, 0, none⟩) sLb) ha
  clear cx ha
  refine Deliver_at (q := q2) (st := sK0) (L := sLb) (b := 3) s_d2 hq2 (new_i 2 []) s_s0 (by decide) (by decide) ca fun q5 hsb5 hq5 st10 => ?_
  clear ca
  rw [← hsb5]
  refine fun w G cx => line_to (no := 3) (b := 5) (by unfold I64; decide) cx fun k6 st11 => ?_
  clear cx
  intro k132 w G cx
  obtain ⟨ca, ha⟩ := Ctx.freezeBlk (α := LineD) (l := sLa) cx (Elems.one (lineD_rep (by unfold I64; decide) (by decide) cx.phi.2))
  have ca := ca.add (Ψ := fun M w => Sl M w (some ⟨k132, 0, none⟩) sLa) ha
  clear cx ha
  refine Deliver_at (q := q5) (st := sKa) (L := sLa) (b := 5) s_d3 hq5 s_ia s_sa (by decide) (by decide) ca fun q6 hsb6 hq6 st12 => ?_
  clear ca
  rw [← hsb6]
  refine fun w G cx => Deliver_at (hL := hzl _) (q := q6) (st := sKb) (L := []) (b := 4) s_d4 hq6 s_ib s_sb (by decide) (by decide) cx fun q7 hsb7 hq7 st13 => ?_
  clear cx
  rw [← hsb7]
  refine Br.intro (fun _ => Br.intro (fun _ => Br.intro (fun _ => Br.intro (fun _ => Br.intro (fun _ => ?_) (fun h => absurd rfl (of_decide_eq_false h))) (fun h => absurd rfl (of_decide_eq_false h))) (fun h => absurd rfl (of_decide_eq_false h))) (fun h => absurd rfl (of_decide_eq_false h))) (fun h => absurd rfl (of_decide_eq_false h))
  refine fun w G cx => (Last_q hq7).toI cx ?_
  clear cx
  refine Br.intro (fun _ => ?_) (fun h => absurd (show lastK sKb = 5 by decide) (of_decide_eq_false h))
  refine fun w G cx => LinesN_q.toI cx ?_
  clear cx
  exact fun w G cx => ⟨rfl, Ctx.has (Ctx.right (S := SkO q4 sKa) (Ctx.left (Ctx.right (S := SkO q7 sKb) (cx.re (List.append_assoc _ _ _)))))⟩
end Go.Proofs.YtemhapmbcbbljaaGreatDoor
end

section
namespace Go.Proofs.YtemhapmbcbbljaaGreatDoor
open Go.Vc
theorem fewO_out {l : List OpD} {n : Int} (h : fewO l n = true) : (l.length : Int) ≤ n ∧ ∀ x ∈ l, x.l.length ≤ 8 := by
  unfold fewO at h
  rw [Bool.and_eq_true] at h
  exact ⟨of_decide_eq_true h.1, fun x hx => by have := fewR_len (List.all_eq_true.1 h.2 x hx); omega⟩
structure HidI (st : SkD) (i : Nat) (LL : List LineD) : Prop where
  inv : SkI st
  prep : PrepI st
  kind : st.kind = 0
  size : SkS st (8 * i)
  aside : st.aside.length ≤ 8
  last : st.prep ≠ 0 → st.aside = LL
  len : LL.length ≤ 8
section
variable {Φ : PW} {W w : World} {R S G : List Own} {p : Option Addr} {cap : Nat}
end
end Go.Proofs.YtemhapmbcbbljaaGreatDoor
end

section
namespace Go.Proofs.YtemhapmbcbbljaaGreatDoor
open Go.Vc
theorem op_grow {s : SkD} (h : SkR s) (k b : Int) (L : List LineD) : ∃ L', (opK k s b L).2.lines = s.lines ++ L' ∧ lastK s ≤ lastK (opK k s b L).2 ∧ (lastK (opK k s b L).2 = lastK s → L' = []) ∧ (∀ x ∈ L', x.batch = lastK (opK k s b L).2) ∧ L'.length ≤ max L.length s.aside.length := by
  have same : ∀ {t : SkD}, t.lines = s.lines → t.bats = s.bats → ∃ L', t.lines = s.lines ++ L' ∧ lastK s ≤ lastK t ∧ (lastK t = lastK s → L' = []) ∧ (∀ x ∈ L', x.batch = lastK t) ∧ L'.length ≤ max L.length s.aside.length := fun {t} h1 h2 =>
    ⟨[], by rw [h1, List.append_nil], by unfold lastK; rw [h2]; exact Int.le_refl _, fun _ => rfl, by simp, by simp⟩
  have took : ∀ {t : SkD} {c : Int} {M : List LineD}, lookK s c M = 0 → M.length ≤ max L.length s.aside.length → t.lines = s.lines ++ M → t.bats = s.bats ++ [c] → ∃ L', t.lines = s.lines ++ L' ∧ lastK s ≤ lastK t ∧ (lastK t = lastK s → L' = []) ∧ (∀ x ∈ L', x.batch = lastK t) ∧ L'.length ≤ max L.length s.aside.length := fun {t c M} hz hm hl hb => by
    obtain ⟨h1, h2, h3, _⟩ := look_ok (by rw [hz]; simp)
    have e : lastK t = c := by unfold lastK; rw [hb]; simp
    exact ⟨M, hl, by rw [e]; omega, fun h => by rw [e] at h; omega, fun x hx => by rw [e]; exact (bad_right (h3 x hx)).1, hm⟩
  have hP : ∃ L', (prepK s b L).2.lines = s.lines ++ L' ∧ lastK s ≤ lastK (prepK s b L).2 ∧ (lastK (prepK s b L).2 = lastK s → L' = []) ∧ (∀ x ∈ L', x.batch = lastK (prepK s b L).2) ∧ L'.length ≤ max L.length s.aside.length := by
    rcases prep_cases s b L with ⟨e, _⟩ | ⟨_, _, _, e⟩ <;> rw [e] <;> exact same rfl rfl
  unfold opK
  split
  · exact hP
  split
  · exact hP
  split
  · rcases comm_cases s b with ⟨e, _⟩ | ⟨h0, h1, h2, h3, e⟩
    · rw [e]; exact same rfl rfl
    · rw [e]
      have hp := (h.prep (by omega)).2.2
      rw [← h3] at hp
      exact took hp (by omega) rfl rfl
  split
  · rcases abort_cases s b with ⟨e, _⟩ | ⟨_, _, _, e⟩ <;> rw [e] <;> exact same rfl rfl
  split
  · exact same rfl rfl
  split
  · exact same rfl rfl
  · rcases deliv_cases s b L with ⟨e, _⟩ | ⟨_, _, h2, e⟩
    · rw [e]; exact same rfl rfl
    · rw [e]; exact took (Decidable.not_not.1 h2) (by omega) rfl rfl
theorem op_bats (s : SkD) (k b : Int) (L : List LineD) : (opK k s b L).2.bats.length ≤ s.bats.length + 1 := by
  have hP : (prepK s b L).2.bats.length ≤ s.bats.length + 1 := by
    rcases prep_cases s b L with ⟨e, _⟩ | ⟨_, _, _, e⟩ <;> rw [e] <;> exact Nat.le_succ _
  have take : ∀ (M : List LineD), (takeK s b M).bats.length ≤ s.bats.length + 1 := fun M => by show (s.bats ++ [b]).length ≤ _; rw [List.length_append, List.length_singleton]; omega
  unfold opK
  split
  · exact hP
  split
  · exact hP
  split
  · rcases comm_cases s b with ⟨e, _⟩ | ⟨_, _, _, _, e⟩ <;> rw [e]
    · exact Nat.le_succ _
    · exact take s.aside
  split
  · rcases abort_cases s b with ⟨e, _⟩ | ⟨_, _, _, e⟩ <;> rw [e] <;> exact Nat.le_succ _
  split
  · exact Nat.le_succ _
  split
  · exact Nat.le_succ _
  · rcases deliv_cases s b L with ⟨e, _⟩ | ⟨_, _, _, e⟩ <;> rw [e]
    · exact Nat.le_succ _
    · exact take L
theorem op_prepZ {s : SkD} (h : I64 s.prep) (k : Int) {b : Int} (hb : I64 b) (L : List LineD) : I64 (opK k s b L).2.prep := by
  have hP : I64 (prepK s b L).2.prep := by
    rcases prep_cases s b L with ⟨e, _⟩ | ⟨_, _, _, e⟩ <;> rw [e]
    · exact h
    · exact hb
  have z : I64 0 := by unfold I64; decide
  unfold opK
  split
  · exact hP
  split
  · exact hP
  split
  · rcases comm_cases s b with ⟨e, _⟩ | ⟨_, _, _, _, e⟩ <;> rw [e]
    · exact h
    · exact z
  split
  · rcases abort_cases s b with ⟨e, _⟩ | ⟨_, _, _, e⟩ <;> rw [e]
    · exact h
    · exact z
  split
  · exact h
  split
  · exact h
  · rcases deliv_cases s b L with ⟨e, _⟩ | ⟨_, _, _, e⟩ <;> rw [e] <;> exact h
structure OnceI (kind : Int) (key : List Int) (st : SkD) (i : Nat) : Prop where
  inv : SkI st
  prep : PrepI st
  made : SkR st
  size : SkS st (8 * i + 1)
  aside : st.aside.length ≤ 8
  kind : st.kind = kind
  prepZ : I64 st.prep
  key : st.key = key
  bats : st.bats.length ≤ i
  lines : st.lines.length ≤ 8 * i
theorem once0 {kind : Int} {key : List Int} (h : newOk kind key = true) (hk : key.length ≤ 20) : OnceI kind key (newK kind key) 0 :=
  ⟨new_i kind key, fun h => absurd rfl h, new_r h, ⟨by show 0 ≤ _; omega, by show 0 ≤ _; omega, by show 0 ≤ _; omega, by show key.length ≤ _; omega⟩, by show 0 ≤ 8; omega, rfl, by show I64 0; unfold I64; decide, rfl, Nat.le_refl _, Nat.le_refl _⟩
theorem op_o {kind : Int} {key : List Int} {st : SkD} {i : Nat} (h : OnceI kind key st i) (k : Int) {b : Int} (hb : I64 b) {L : List LineD} (hL : L.length ≤ 8) : OnceI kind key (opK k st b L).2 (i + 1) := by
  obtain ⟨h1, h2⟩ := op_i h.inv h.prep hb k L
  obtain ⟨h3, h4⟩ := op_s h.size h.aside k b hL
  obtain ⟨h5, h6⟩ := op_kind st k b L
  have h7 := op_bats st k b L
  have hln : (opK k st b L).2.lines.length ≤ 8 * (i + 1) := by
    obtain ⟨L', e, _, _, _, hm⟩ := op_grow h.made k b L
    have := h.lines
    have := h.aside
    rw [e, List.length_append]
    omega
  exact ⟨h1, h2, op_r h.made k b L, h3.up (by omega), h4, by rw [h5, h.kind], op_prepZ h.prepZ k hb L, by rw [h6, h.key], by have := h.bats; omega, hln⟩
end Go.Proofs.YtemhapmbcbbljaaGreatDoor
end

section
namespace Go.Proofs.YtemhapmbcbbljaaGreatDoor
open Go.Vc
section
variable {Φ : PW} {q : KP} {st : SkD} {W w : World} {R S G : List Own} {p : Option Addr} {cap : Nat} {L : List LineD}
set_option maxHeartbeats 4000000 in
theorem DoAll_use [Stable Φ] {op b : Int} [hF : Has Φ (SkF q st)] [hL : Has Φ (fun M w => Sl M w p L)] [hN : Has Φ NumI] (hq : SkQ q st) (hI : SkI st) (hR : SkR st) (hkd : I64 st.kind) (hpz : I64 st.prep) {n : Nat} (hs : SkS st n) (hn : n ≤ 400000)
    (hsz : 200 + (st.key.length + st.bats.length) * 21 + (st.lines.length + st.aside.length) * 3330 ≤ 2500000) (hlen : L.length ≤ 400000) (c : Ctx W w ((SkO q st ++ R) ++ G) Φ) {K : Option Addr → Int → List Own → PW → Prop}
    (hk : ∀ q' : KP, SkQ q' (opK (andZ op 7) st b L).2 → Stable (fun M w => Φ M w ∧ SkF q' (opK (andZ op 7) st b L).2 M w) → K (some ⟨q'.sb, 0, none⟩) (opK (andZ op 7) st b L).1 (SkO q' (opK (andZ op 7) st b L).2 ++ R) (fun M w => Φ M w ∧ SkF q' (opK (andZ op 7) st b L).2 M w)) :
    Calls Tryz.prog F.erratalaw43_do #[snk q, .agg #[.int .i64 op, .int .i64 b, .slice p L.length cap]] w fun e w' => ∃ a n, e = .returned (.tuple #[.pointer a, .int .i64 n]) ∧ ∃ R' Φ', Stable Φ' ∧ Ctx W w' (R' ++ G) Φ' ∧ K a n R' Φ' := by
  have hW : SkW st := sk_w hI hkd hpz (hF.go _ _ c.phi)
  have hT : Has Φ TabI := ⟨fun M w h => (hN.go M w h).1⟩
  have hread : readSk (skB st).data.toList = some st := read_bytes hR hW (by have := hs.key; omega) (by have := hs.bats; omega) (by have := hs.lines; omega) (by have := hs.aside; omega)
  have hbl : (skB st).data.toList.length ≤ 2500000 := by rw [list_size]; exact Nat.le_trans (skB_size hW hs hn) hsz
  refine (Berratalaw43_do_run q.sb 0 op b p L.length cap (R := (SkO q st ++ R) ++ G) (J := fun v w' => ∃ a n, v = .tuple #[.pointer a, .int .i64 n] ∧ ∃ R' Φ', Stable Φ' ∧ Ctx W w' (R' ++ G) Φ' ∧ K a n R' Φ') c ?_).mono fun e w' ⟨v, he, a, n, hv, rest⟩ => ⟨a, n, by rw [he, hv], rest⟩
  clear c
  refine fun _ => ⟨andZ op 7, fun w => and_run op 7 w, ?_⟩
  obtain ⟨k, hkk⟩ : ∃ k, andZ op 7 = k := ⟨_, rfl⟩
  rw [hkk] at hk ⊢
  have tail : ∀ {m : Int} {st' : SkD} (q' : KP), opK k st b L = (m, st') → SkQ q' st' → ∀ {w : World} {G2 : List Own}, Ctx W w ((SkO q' st' ++ (R ++ G)) ++ G2) (fun M w => Φ M w ∧ SkF q' st' M w) → ∃ a n, Value.tuple #[.pointer (some ⟨q'.sb, 0, none⟩), .int .i64 m] = .tuple #[.pointer a, .int .i64 n] ∧ ∃ R' Φ', Stable Φ' ∧ Ctx W w (R' ++ G) Φ' ∧ K a n R' Φ' := fun {m st'} q' h hq' {w G2} cx => by
    rw [h] at hk
    exact ⟨_, m, rfl, SkO q' st' ++ R, _, inferInstance, (cx.left).re (by simp), hk q' hq' inferInstance⟩
  have cP : opK k st b L = prepK st b L → ∀ {w : World} {G2 : List Own}, Ctx W w (((SkO q st ++ R) ++ G) ++ G2) Φ → _ := fun h {w G2} cx => Prepare_use (R := R ++ G) (G := G2) (b := b) (L := L) (cap := cap) (p := p) hq hI hs hn hlen (cx.re (by simp)) (K := fun m R' Φ' => ∀ (w : World) (G2 : List Own), Ctx W w (R' ++ G2) Φ' → ∃ a n, Value.tuple #[.pointer (some ⟨q.sb, 0, none⟩), .int .i64 m] = .tuple #[.pointer a, .int .i64 n] ∧ ∃ R' Φ', Stable Φ' ∧ Ctx W w (R' ++ G) Φ' ∧ K a n R' Φ') fun q' hsb hq' _ => fun w G2 cx => by rw [← hsb]; exact tail q' h hq' cx
  have cC : opK k st b L = commK st b → ∀ {w : World} {G2 : List Own}, Ctx W w (((SkO q st ++ R) ++ G) ++ G2) Φ → _ := fun h {w G2} cx => Commit_use (R := R ++ G) (G := G2) (b := b) hq hI hs hn (cx.re (by simp)) (K := fun m R' Φ' => ∀ (w : World) (G2 : List Own), Ctx W w (R' ++ G2) Φ' → ∃ a n, Value.tuple #[.pointer (some ⟨q.sb, 0, none⟩), .int .i64 m] = .tuple #[.pointer a, .int .i64 n] ∧ ∃ R' Φ', Stable Φ' ∧ Ctx W w (R' ++ G) Φ' ∧ K a n R' Φ') fun q' hsb hq' _ => fun w G2 cx => by rw [← hsb]; exact tail q' h hq' cx
  have cA : opK k st b L = abortK st b → ∀ {w : World} {G2 : List Own}, Ctx W w (((SkO q st ++ R) ++ G) ++ G2) Φ → _ := fun h {w G2} cx => Abort_use (R := R ++ G) (G := G2) (b := b) hq hI hs hn (cx.re (by simp)) (K := fun m R' Φ' => ∀ (w : World) (G2 : List Own), Ctx W w (R' ++ G2) Φ' → ∃ a n, Value.tuple #[.pointer (some ⟨q.sb, 0, none⟩), .int .i64 m] = .tuple #[.pointer a, .int .i64 n] ∧ ∃ R' Φ', Stable Φ' ∧ Ctx W w (R' ++ G) Φ' ∧ K a n R' Φ') fun q' hsb hq' _ => fun w G2 cx => by rw [← hsb]; exact tail q' h hq' cx
  have cD : opK k st b L = delivK st b L → ∀ {w : World} {G2 : List Own}, Ctx W w (((SkO q st ++ R) ++ G) ++ G2) Φ → _ := fun h {w G2} cx => Deliver_use (R := R ++ G) (G := G2) (b := b) (L := L) (cap := cap) (p := p) hq hI hs hn hlen (cx.re (by simp)) (K := fun m R' Φ' => ∀ (w : World) (G2 : List Own), Ctx W w (R' ++ G2) Φ' → ∃ a n, Value.tuple #[.pointer (some ⟨q.sb, 0, none⟩), .int .i64 m] = .tuple #[.pointer a, .int .i64 n] ∧ ∃ R' Φ', Stable Φ' ∧ Ctx W w (R' ++ G) Φ' ∧ K a n R' Φ') fun q' hsb hq' _ => fun w G2 cx => by rw [← hsb]; exact tail q' h hq' cx
  have cY : opK k st b L = (0, st) → ∀ {w : World} {G2 : List Own}, Ctx W w (((SkO q st ++ R) ++ G) ++ G2) Φ → _ := fun h {w G2} cx => Copy_to (R := R ++ G) (G := G2) hq hs hn (cx.re (by simp)) (K := fun a R' Φ' => ∀ (w : World) (G2 : List Own), Ctx W w (R' ++ G2) Φ' → ∃ a' n, Value.tuple #[.pointer a, .int .i64 0] = .tuple #[.pointer a', .int .i64 n] ∧ ∃ R' Φ', Stable Φ' ∧ Ctx W w (R' ++ G) Φ' ∧ K a' n R' Φ') fun q' hq' _ => fun w G2 cx => tail q' h hq' (G2 := G2) (Ctx.sub cx (List.Sublist.append (List.Sublist.append (List.Sublist.refl _) (List.sublist_append_right _ _)) (List.Sublist.refl _)))
  have cR : opK k st b L = (0, st) → ∀ {w : World} {G2 : List Own}, Ctx W w (((SkO q st ++ R) ++ G) ++ G2) Φ → Calls Tryz.prog F.sink_Sink_Bytes #[snk q] w fun e40 w41 => ∃ (s42 : ByteArray), e40 = .returned (.string s42) ∧ ∃ (R43 : List Own), ∃ (Φ44 : PW), Stable Φ44 ∧ Ctx W w41 (R43 ++ G2) Φ44 ∧ ∀ (w45 : World) (R46 : List Own), Ctx W w45 (R43 ++ R46) Φ44 → Calls Tryz.prog F.sink_Read #[.string s42] w45 fun e47 w48 => ∃ (p49 : Option Addr), ∃ (c50 : Bool), e47 = .returned (.tuple #[.pointer p49, .bool c50]) ∧ ∃ (R51 : List Own), ∃ (Φ52 : PW), Stable Φ52 ∧ Ctx W w48 (R51 ++ R46) Φ52 ∧
      Br (!c50) (∀ (w : World) (G2 : List Own), Ctx W w (R51 ++ G2) Φ52 → ∃ a n, Value.tuple #[.pointer none, .int .i64 0] = .tuple #[.pointer a, .int .i64 n] ∧ ∃ R' Φ', Stable Φ' ∧ Ctx W w (R' ++ G) Φ' ∧ K a n R' Φ') (∀ (w : World) (G2 : List Own), Ctx W w (R51 ++ G2) Φ52 → ∃ a n, Value.tuple #[.pointer p49, .int .i64 0] = .tuple #[.pointer a, .int .i64 n] ∧ ∃ R' Φ', Stable Φ' ∧ Ctx W w (R' ++ G) Φ' ∧ K a n R' Φ') := fun h {w G2} cx => by
    refine (Bytes_q (st := st) (q := q) hq hW hs hn).toS (R := R ++ G) (G := G2) (cx.re (by simp)) ?_
    clear cx
    refine fun w G2 cx => Read_to hN.go (skB st).data.toList hbl cx (fun hn => ?_) (fun q' st' hr hq' _ _ st1 => ?_)
    · rw [hread] at hn; cases hn
    · rw [hread] at hr
      cases hr
      refine Br.intro (fun h => by cases h) (fun _ => fun w G2 cx => tail q' h hq' (G2 := G2) (Ctx.sub cx (List.Sublist.append (List.Sublist.append (List.Sublist.refl _) (List.sublist_append_right _ _)) (List.Sublist.refl _))))
  have e0 : opK k st b L = if k = 0 then prepK st b L else if k = 1 then prepK st b L else if k = 2 then commK st b else if k = 3 then abortK st b else if k = 6 then (0, st) else if k = 7 then (0, st) else delivK st b L := rfl
  have rest : k ≠ 0 → k ≠ 1 → opK k st b L = if k = 2 then commK st b else if k = 3 then abortK st b else if k = 6 then (0, st) else if k = 7 then (0, st) else delivK st b L := fun h h2 => by rw [e0, if_neg h, if_neg h2]
  refine Br.intro (fun h0 => ?_) (fun h0 => ?_)
  · refine Br.intro (fun _ => fun w G2 cx => cP (by rw [e0, if_pos (of_decide_eq_true h0)]) cx) (fun h => ?_)
    rw [h0] at h; cases h
  · refine Br.intro (fun h => fun w G2 cx => cP (by rw [e0, if_neg (of_decide_eq_false h0), if_pos (of_decide_eq_true h)]) cx) (fun h1 => ?_)
    have e1 := rest (of_decide_eq_false h0) (of_decide_eq_false h1)
    refine Br.intro (fun h => fun w G2 cx => cC (by rw [e1, if_pos (of_decide_eq_true h)]) cx) (fun h => ?_)
    rw [if_neg (of_decide_eq_false h)] at e1
    refine Br.intro (fun h => fun w G2 cx => cA (by rw [e1, if_pos (of_decide_eq_true h)]) cx) (fun h => ?_)
    rw [if_neg (of_decide_eq_false h)] at e1
    refine Br.intro (fun h => fun w G2 cx => cY (by rw [e1, if_pos (of_decide_eq_true h)]) cx) (fun h => ?_)
    rw [if_neg (of_decide_eq_false h)] at e1
    refine Br.intro (fun h => fun w G2 cx => cR (by rw [e1, if_pos (of_decide_eq_true h)]) cx) (fun h => ?_)
    rw [if_neg (of_decide_eq_false h)] at e1
    exact fun w G2 cx => cD e1 cx
end
end Go.Proofs.YtemhapmbcbbljaaGreatDoor
end

section
namespace Go.Proofs.YtemhapmbcbbljaaGreatDoor
open Go.Vc
theorem neg_tmod10 (n : Nat) : (-(n : Int)).tmod 10 = -((n % 10 : Nat) : Int) := by
  rw [Int.neg_tmod]; rfl
theorem neg_tdiv10 (n : Nat) : (-(n : Int)).tdiv 10 = -((n / 10 : Nat) : Int) := by
  rw [Int.neg_tdiv]; rfl
theorem wrap_dig (d : Nat) (h : d < 10) : IntKind.u8.wrap (48 - -(d : Int)) = ((UInt8.ofNat (48 + d)).toNat : Int) := by
  have : ∀ d : Fin 10, IntKind.u8.wrap (48 - -((d.val : Nat) : Int)) = ((UInt8.ofNat (48 + d.val)).toNat : Int) := by decide
  exact this ⟨d, h⟩
theorem mk_app (l : List UInt8) (b : ByteArray) : (⟨l.toArray⟩ : ByteArray) ++ b = ⟨(l ++ b.data.toList).toArray⟩ := by
  apply ByteArray.ext
  rw [ByteArray.data_append]
  apply Array.toList_inj.1
  simp
theorem digits_g : ∀ (n : Nat), n ≤ 9223372036854775808 → Gives Tryz.prog F.errataref01_digits #[.int .i64 (-(n : Int))] (.string ⟨(Lib.decDigits n).toArray⟩) := by
  intro n
  induction n using Nat.strongRecOn with
  | _ n ih =>
    intro hn
    refine gives_of (Berrataref01_digits_run (-(n : Int))) fun W R Φ hs => ?_
    have e0 : (48 : Int) - (-(n : Int)).tmod 10 = 48 - -((n % 10 : Nat) : Int) := by rw [neg_tmod10]
    refine ⟨by omega, by rw [e0]; unfold I64; omega, fun k w G cx => ?_⟩
    rw [e0, wrap_dig _ (by omega)] at cx
    have hcell : ∀ j, (hj : j < [UInt8.ofNat (48 + n % 10)].length) → w.cell? ((⟨k, 0, none⟩ : Addr).add j) = some (.int .u8 ([UInt8.ofNat (48 + n % 10)][j].toNat : Int)) := fun j hj => by
      obtain rfl : j = 0 := by simpa using hj
      exact cx.get 0 rfl rfl
    refine ⟨_, _, run_convert_bytes_back w 91 9 5 ⟨k, 0, none⟩ 1 [UInt8.ofNat (48 + n % 10)] (by kernel_rfl) (by kernel_rfl) (by kernel_rfl) hcell, R, Φ, hs, cx.drop1, ?_⟩
    clear cx
    refine Br.intro (fun h => fun w G cx => ⟨?_, cx.left⟩) (fun h => ?_)
    · have h := of_decide_eq_true h
      rw [Lib.decDigits, dif_pos (by omega), show n % 10 = n by omega]
    · have h := of_decide_eq_false h
      have e1 := neg_tdiv10 n
      refine ⟨by omega, by rw [e1]; unfold I64; omega, fun w G cx => ?_⟩
      rw [e1]
      have hl := nDigits_le 19 (n / 10) (by omega) (by decide)
      have hd := Lib.decDigits_length (n / 10)
      refine ((ih (n / 10) (by omega) (by omega)).in).toS cx ⟨?_, fun w G cx => ⟨?_, cx.left⟩⟩
      · show (ByteArray.mk (Lib.decDigits (n / 10)).toArray).size + 1 ≤ _
        rw [size_list, hd]; omega
      · conv => rhs; rw [Lib.decDigits, dif_neg (by omega)]
        rw [mk_app]
theorem Int01_g (n : Int) (h : I64 n) : Gives Tryz.prog F.errataref01_Int #[.int .i64 n] (.string (intB n)) := by
  have hs := intB_size h
  unfold intB numB at hs
  rw [size_app, size_list, show (ByteArray.mk #[59]).size = 1 from rfl] at hs
  unfold I64 at h
  refine gives_of (Berrataref01_Int_run n) fun W R Φ _ => Br.intro (fun hn => ?_) (fun hn => ?_)
  · have hn := of_decide_eq_true hn
    have e : n = -((n.natAbs : Nat) : Int) := by omega
    have hi : Lib.itoa n = 45 :: Lib.decDigits n.natAbs := by unfold Lib.itoa; rw [if_pos hn]
    have hg := digits_g n.natAbs (by omega)
    rw [← e] at hg
    rw [hi, List.length_cons] at hs
    have e45 : (ByteArray.mk #[45]) ++ ByteArray.mk (Lib.decDigits n.natAbs).toArray = numB n := by
      unfold numB
      rw [show (ByteArray.mk #[45]) = ⟨[(45 : UInt8)].toArray⟩ from rfl, mk_app, hi]
      rfl
    refine fun w G cx => (hg.in).toS cx ⟨?_, ?_, fun w G cx => ⟨?_, cx.left⟩⟩
    · show 1 + (ByteArray.mk (Lib.decDigits n.natAbs).toArray).size ≤ _
      rw [size_list]; omega
    · show ((ByteArray.mk #[45]) ++ ByteArray.mk (Lib.decDigits n.natAbs).toArray).size + 1 ≤ _
      have e1 : (ByteArray.mk #[45]).size = 1 := rfl
      rw [size_app, size_list (Lib.decDigits n.natAbs), e1]
      omega
    · unfold intB
      rw [← e45]
  · have hn := of_decide_eq_false hn
    have e : 0 - n = -((n.toNat : Nat) : Int) := by omega
    have hi : Lib.itoa n = Lib.decDigits n.toNat := by unfold Lib.itoa; rw [if_neg hn]
    have hg := digits_g n.toNat (by omega)
    rw [← e, ← hi] at hg
    refine ⟨by unfold I64; omega, fun w G cx => (hg.in).toS cx ⟨?_, fun w G cx => ⟨rfl, cx.left⟩⟩⟩
    show (ByteArray.mk (Lib.itoa n).toArray).size + 1 ≤ _
    rw [size_list]; omega
theorem Num01_g (n : Int) (h : I64 n) : Gives Tryz.prog F.errataref01_Num #[.int .i64 n] (.string (natB n)) := by
  refine gives_of (Berrataref01_Num_run n) fun W R Φ _ => Br.intro (fun hn => fun w G cx => ⟨?_, cx.left⟩) (fun hn => fun w G cx => ((Int01_g n h).in).toS cx fun w G cx => ⟨?_, cx.left⟩)
  · unfold natB; rw [if_pos (of_decide_eq_true hn)]
  · unfold natB; rw [if_neg (of_decide_eq_false hn)]
theorem Text01_g (s : ByteArray) (hs : s.size ≤ 1000000000000) : Gives Tryz.prog F.errataref01_Text #[.string s] (.string (textB s)) := by
  have h1 := numB_size (n := (s.size : Int)) (by unfold I64; omega)
  have e : (0 : Int) - s.size = -((s.size : Nat) : Int) := by omega
  have hg := digits_g s.size (by omega)
  have hi : Lib.itoa (s.size : Int) = Lib.decDigits s.size := by unfold Lib.itoa; rw [if_neg (by omega)]; rfl
  rw [← e, ← hi] at hg
  have e1 : (ByteArray.mk #[58]).size = 1 := rfl
  refine gives_of (Berrataref01_Text_run s) fun W R Φ _ => ⟨by unfold I64; omega, fun w G cx => (hg.in).toS cx ⟨?_, ?_, ?_, fun w G cx => ⟨rfl, cx.left⟩⟩⟩
  · show (numB s.size).size + 1 ≤ _; omega
  · show (numB s.size ++ ByteArray.mk #[58]).size + s.size ≤ _; rw [size_app, e1]; omega
  · show (numB s.size ++ ByteArray.mk #[58] ++ s).size + 1 ≤ _; rw [size_app, size_app, e1]; omega
theorem Bytes03_g (v : ValD) (h1 : I64 v.kind) (h2 : I64 v.num) (hs : v.text.size ≤ 1000000000000) : Gives Tryz.prog F.errataref03_Bytes #[v.v] (.string (valB v)) := by
  have a := intB_size h1
  have b := intB_size h2
  have c := textB_size (s := v.text) (by omega)
  refine gives_of (Berrataref03_Bytes_run v.kind v.num v.text) fun W R Φ _ => ?_
  exact fun _ => ⟨R, Φ, inferInstance, fun w G cx => cx, fun w G cx => ((Int01_g v.kind h1).in).toS cx ⟨fun w G cx => cx, fun w G cx => ((Int01_g v.num h2).in).toS cx ⟨fun w G cx => cx, by show (intB v.kind).size + (intB v.num).size ≤ _; omega,
    fun w G cx => ((Text01_g v.text hs).in).toS cx ⟨fun w G cx => cx, by show (intB v.kind ++ intB v.num).size + (textB v.text).size ≤ _; rw [size_app]; omega, fun w G cx => ⟨rfl, cx.left⟩⟩⟩⟩⟩
theorem RowBytes03_in {Φ : PW} [Stable Φ] (p : Option Addr) (cap : Nat) (r : List ValD) (hΦ : ∀ M w, Φ M w → Sl M w p r) (hr : r.length ≤ 1000000) (ht : ∀ v ∈ r, v.text.size ≤ 10000) :
    GivesIn Φ Tryz.prog F.errataref03_RowBytes #[.slice p r.length cap] (.string (rowB r)) := by
  refine .there (fun M w h => (hΦ M w h).there) fun hth => .know (fun M w h => sl_i64 (hΦ M w h)) fun hi => ?_
  have hv : ∀ v ∈ r, (I64 v.kind ∧ I64 v.num) ∧ v.text.size ≤ 10000 := fun v h => ⟨(hi v h).1, ht v h⟩
  have hL := rowL_len hv (by decide) hr
  have hL : (rowL r).length ≤ 20000000000 := by
    have : r.length * (10000 + 64) ≤ 1000000 * 10064 := Nat.mul_le_mul hr (Nat.le_refl _)
    omega
  refine gives_in (Berrataref03_RowBytes_run p r.length cap) fun W R => ?_
  refine fun w G cx => ((Num01_g (r.length : Int) (by unfold I64; omega)).in).toS cx ?_
  clear cx
  refine exI_mk (fun s iI R' Φ' k => ∃ i : Nat, iI = i ∧ i ≤ r.length ∧ s = ⟨((natB r.length).data.toList ++ valsL (r.take i)).toArray⟩ ∧ R' = R ∧ Φ' = Φ ∧ k = r.length - i) ⟨⟨R, Φ, _, inferInstance, fun w G cx => cx, 0, rfl, Nat.zero_le _, by rw [List.take_zero, show valsL [] = [] from rfl, List.append_nil], rfl, rfl, rfl⟩, ?_⟩
  rintro s iI R2 Φ2 k _ ⟨i, rfl, hi, rfl, rfl, rfl, rfl⟩
  refine Br.intro (fun hlt => ?_) (fun hge => fun w G cx => ⟨?_, cx.left⟩)
  · have hlt : i < r.length := by have := of_decide_eq_true hlt; omega
    obtain ⟨g, o, rfl⟩ := hth (by omega)
    obtain ⟨⟨h1, h2⟩, h3⟩ := hv r[i] (List.getElem_mem hlt)
    have hsz := valB_size h1 h2 (by omega)
    have hlen : ((natB r.length).data.toList ++ valsL (r.take (i + 1))).length ≤ 20000000000 := by
      have e : valsL r = valsL (r.take (i + 1)) ++ valsL (r.drop (i + 1)) := by rw [← valsL_app, List.take_append_drop]
      unfold rowL at hL
      rw [e, List.length_append, List.length_append] at hL
      rw [List.length_append]; omega
    have hstep : valsL (r.take (i + 1)) = valsL (r.take i) ++ (valB r[i]).data.toList := by rw [List.take_succ_eq_append_getElem hlt, valsL_app, valsL_one]
    refine ⟨by omega, ptrK_intro g o rfl fun w G cx => ⟨r[i].kind, r[i].num, r[i].text, by rw [Int.toNat_natCast]; exact sl_val (hΦ _ _ cx.phi) hlt, fun w G cx => ((Bytes03_g r[i] h1 h2 (by omega)).in).toS cx ⟨?_, by unfold I64; omega, R2, Φ2, r.length - (i + 1), inferInstance, fun w G cx => cx, ⟨i + 1, by omega, hlt, ?_, rfl, rfl, rfl⟩, by omega⟩⟩⟩
    · show (ByteArray.mk ((natB r.length).data.toList ++ valsL (r.take i)).toArray).size + (valB r[i]).size ≤ _
      rw [hstep, ← List.append_assoc, List.length_append, list_size] at hlen
      rw [size_list]; omega
    · rw [mk_app, List.append_assoc, hstep]
  · have hge : i = r.length := by have := of_decide_eq_false hge; omega
    subst hge
    rw [List.take_length]
    rfl
end Go.Proofs.YtemhapmbcbbljaaGreatDoor
end

section
namespace Go.Proofs.YtemhapmbcbbljaaGreatDoor
open Go.Vc
abbrev RkO (q : KP) (st : SkD) : List Own := [.blk q.sb (SkB q st) 39, bufZ q.bp q.bc st.bats]
abbrev RkF (q : KP) (st : SkD) : PW := fun M w => Sl M w q.lp st.lines ∧ (Sl M w q.kp st.key ∧ Sl M w q.ap st.aside)
structure RkQ (q : KP) (st : SkD) : Prop where
  bpt : 0 < st.bats.length → ∃ g, q.bp = some ⟨g, 0, none⟩
  lcap : st.lines.length ≤ q.lc ∧ q.lc ≤ maxLen
  bcap : st.bats.length ≤ q.bc ∧ q.bc ≤ maxLen
  kcap : st.key.length ≤ q.kc ∧ q.kc ≤ maxLen
  acap : st.aside.length ≤ q.ac ∧ q.ac ≤ maxLen
theorem rkq_of {q : KP} {st : SkD} {W w : World} {S : List Own} {Φ : PW} (c : Ctx W w (RkO q st ++ S) Φ) (hl : st.lines.length ≤ q.lc ∧ q.lc ≤ maxLen) (hk : st.key.length ≤ q.kc ∧ q.kc ≤ maxLen) (ha : st.aside.length ≤ q.ac ∧ q.ac ≤ maxLen) : RkQ q st where
  bpt := fun h => by
    obtain ⟨g, hg, _⟩ := c.bufCell 1 rfl (by rw [(c.bufLen 1 rfl).1]; omega)
    exact ⟨g, hg⟩
  lcap := hl
  bcap := (c.bufLen 1 rfl).2
  kcap := hk
  acap := ha
theorem newOk_iff (kind : Int) (key : List Int) : newOk kind key = (!(decide (kind < 0) || decide (3 ≤ kind) || decide ((0 : Int) < key.length) && decide (kind ≠ 1)) && !key.any fun k => decide (k < 0)) := by
  have hm : (0 : Int) < key.length → (decide (minZ key < 0) = key.any fun k => decide (k < 0)) := fun h => by
    have hne : key ≠ [] := fun e => by rw [e] at h; exact absurd h (by decide)
    cases ha : key.any fun k => decide (k < 0) with
    | true =>
      refine decide_eq_true ?_
      obtain ⟨x, hx, hx2⟩ := List.any_eq_true.1 ha
      have hx2 := of_decide_eq_true hx2
      by_cases h0 : 0 ≤ minZ key
      · have := (minZ_le hne 0).1 h0 x hx; omega
      · omega
    | false =>
      refine decide_eq_false ?_
      have : 0 ≤ minZ key := (minZ_le hne 0).2 fun x hx => by
        have := List.any_eq_false.1 ha x hx
        have := of_decide_eq_false (by simpa using this : decide (x < 0) = false)
        omega
      omega
  unfold newOk
  by_cases h0 : (0 : Int) < key.length
  · rw [hm h0, decide_eq_true h0]
    cases decide (kind < 0) <;> cases decide (3 ≤ kind) <;> simp
  · have hnil : key = [] := List.eq_nil_of_length_eq_zero (by omega)
    rw [hnil]
    cases decide (kind < 0) <;> cases decide (3 ≤ kind) <;> simp
section
variable {Φ : PW} {q : KP} {st : SkD} {W w : World} {R S G : List Own} {p : Option Addr} {cap : Nat} {L : List LineD} {cs : List Value}
theorem rk_cell (cx : Ctx W w ((RkO q st ++ R) ++ G) Φ) {i : Nat} {v : Value} (h : (SkB q st)[i]? = some v) : w.cell? ⟨q.sb, i, none⟩ = some v := cx.get 0 rfl h
theorem srcz_rk (hq : RkQ q st) : SrcZ (RkO q st) Φ q.bp st.bats where
  ptr := fun h => by obtain ⟨g, hg⟩ := hq.bpt h; exact ⟨g, 0, hg⟩
  rd := fun {W w G b o} e c i h => by
    obtain ⟨g, hg⟩ := hq.bpt (by omega)
    rw [hg] at e
    cases e
    rw [Nat.zero_add]
    exact c.bufGet 1 rfl hg (by rw [List.getElem?_map, List.getElem?_eq_getElem h]; rfl)
theorem rk_bat (hq : RkQ q st) {g : Nat} (hg : q.bp = some ⟨g, 0, none⟩) (cx : Ctx W w ((RkO q st ++ R) ++ G) Φ) {i : Nat} (h : i < st.bats.length) : w.cell? ⟨g, i, none⟩ = some (.int .i64 st.bats[i]) := by
  have := (srcz_rk (Φ := Φ) hq).rd hg (G := R ++ G) (cx.re (List.append_assoc _ _ _)) i h
  rw [Nat.zero_add] at this
  exact this
theorem Last43_q [Stable Φ] (hq : RkQ q st) : GivesQ (RkO q st) Φ Tryz.prog F.errataref43_Sink_Last #[snk q] (.int .i64 (lastK st)) := by
  refine gives_q (Berrataref43_Sink_Last_run q.sb 0) fun W R => fun w G cx => ⟨_, _, _, rk_cell (i := 2) cx rfl, Br.intro (fun h => fun w G cx => ⟨?_, cx.left⟩) (fun h => fun w G cx => ⟨_, _, _, rk_cell (i := 2) cx rfl, _, _, _, rk_cell (i := 2) cx rfl, ?_⟩)⟩
  · have h := of_decide_eq_true h
    have : st.bats = [] := List.eq_nil_of_length_eq_zero (by omega)
    unfold lastK
    rw [this]; rfl
  · have h := of_decide_eq_false h
    have h0 : st.bats.length ≠ 0 := by omega
    have hb := hq.bcap
    unfold maxLen at hb
    obtain ⟨g, hg⟩ := hq.bpt (by omega)
    refine ⟨by unfold I64; omega, by omega, ptrK_intro g 0 hg ⟨lastK st, ?_, fun w G cx => ⟨rfl, cx.left⟩⟩⟩
    have := rk_bat hq hg cx (i := st.bats.length - 1) (by omega)
    rw [lastK_at h0, show ((st.bats.length : Int) - 1).toNat = st.bats.length - 1 by omega, Nat.zero_add]
    exact this
theorem Has43_q [Stable Φ] (hq : RkQ q st) {b : Int} : GivesQ (RkO q st) Φ Tryz.prog F.errataref43_Sink_Has #[snk q, .int .i64 b] (.bool (hasK st b)) := by
  have hb := hq.bcap
  unfold maxLen at hb
  refine gives_q (Berrataref43_Sink_Has_run q.sb 0 b) fun W R => ?_
  refine exI_mk (fun iI R' Φ' k => ∃ i : Nat, iI = i ∧ i ≤ st.bats.length ∧ (∀ x ∈ st.bats.take i, x ≠ b) ∧ R' = RkO q st ++ R ∧ Φ' = Φ ∧ k = st.bats.length - i) ⟨⟨_, _, _, inferInstance, fun w G cx => cx, 0, rfl, Nat.zero_le _, by simp, rfl, rfl, rfl⟩, ?_⟩
  rintro iI R1 Φ1 k _ ⟨i, rfl, hi, hne, rfl, rfl, rfl⟩
  refine fun w G cx => ⟨_, _, _, rk_cell (i := 2) cx rfl, ?_⟩
  clear cx
  refine Br.intro (fun hlt => fun w G cx => ⟨_, _, _, rk_cell (i := 2) cx rfl, ?_⟩) (fun hge => fun w G cx => ⟨?_, cx.left⟩)
  · clear cx
    have hlt : i < st.bats.length := by have := of_decide_eq_true hlt; omega
    obtain ⟨g, hg⟩ := hq.bpt (by omega)
    refine ⟨by omega, ptrK_intro g 0 hg fun w G cx => ⟨st.bats[i], by rw [Nat.zero_add, Int.toNat_natCast]; exact rk_bat hq hg cx hlt, Br.intro (fun h => fun w G cx => ⟨?_, cx.left⟩) (fun h => ⟨by unfold I64; omega, _, Φ1, st.bats.length - (i + 1), inferInstance, fun w G cx => cx, ⟨i + 1, by omega, hlt, ?_, rfl, rfl, rfl⟩, by omega⟩)⟩⟩
    · unfold hasK
      rw [decide_eq_true (by rw [← of_decide_eq_true h]; exact List.getElem_mem _)]
    · intro x hx
      rw [List.take_succ_eq_append_getElem hlt] at hx
      rcases List.mem_append.1 hx with hx | hx
      · exact hne x hx
      · rw [List.mem_singleton.1 hx]; exact of_decide_eq_false h
  · have hge : i = st.bats.length := by have := of_decide_eq_false hge; omega
    rw [hge, List.take_length] at hne
    unfold hasK
    rw [decide_eq_false fun h => hne b h rfl]
theorem New43_to [Stable Φ] {kind : Int} {key : List Int} [hΦ : Has Φ (fun M w => Sl M w p key)] (hlen : key.length ≤ 10000000) (c : Ctx W w (R ++ G) Φ) {K : Option Addr → List Own → PW → Prop}
    (h0 : newOk kind key = false → K none R Φ)
    (h1 : ∀ q : KP, newOk kind key = true → RkQ q (newK kind key) → Stable (fun M w => Φ M w ∧ RkF q (newK kind key) M w) → K (some ⟨q.sb, 0, none⟩) (RkO q (newK kind key) ++ R) (fun M w => Φ M w ∧ RkF q (newK kind key) M w)) :
    Calls Tryz.prog F.errataref43_New #[.int .i64 kind, .slice p key.length cap] w fun e w' => ∃ p, e = .returned (.pointer p) ∧ ∃ R' Φ', Stable Φ' ∧ Ctx W w' (R' ++ G) Φ' ∧ K p R' Φ' := by
  have hth := (hΦ.go _ _ c.phi).there
  refine (Berrataref43_New_run kind p key.length cap (R := R ++ G) (J := fun v w' => ∃ p, v = .pointer p ∧ ∃ R' Φ', Stable Φ' ∧ Ctx W w' (R' ++ G) Φ' ∧ K p R' Φ') c ?_).mono fun e w' ⟨v, he, p, hv, rest⟩ => ⟨p, by rw [he, hv], rest⟩
  clear c
  have bad : newOk kind key = false → ∀ {w : World} {G2 : List Own}, Ctx W w ((R ++ G) ++ G2) Φ → ∃ p, Value.pointer none = .pointer p ∧ ∃ R' Φ', Stable Φ' ∧ Ctx W w (R' ++ G) Φ' ∧ K p R' Φ' := fun h {w G2} cx => ⟨none, rfl, R, Φ, inferInstance, cx.left, h0 h⟩
  have hok := newOk_iff kind key
  refine exI_mk (fun iI R' Φ' k => ∃ i : Nat, iI = i ∧ i ≤ key.length ∧ (∀ x ∈ key.take i, ¬ x < 0) ∧ R' = R ++ G ∧ Φ' = Φ ∧ k = key.length - i) ⟨⟨_, _, _, inferInstance, fun w G cx => cx, 0, rfl, Nat.zero_le _, by simp, rfl, rfl, rfl⟩, ?_⟩
  rintro iI R1 Φ1 k _ ⟨i, rfl, hi, hnn, rfl, rfl, rfl⟩
  refine Br.intro (fun hlt => ?_) (fun hge => fun w G2 cx => ?_)
  · have hlt : i < key.length := by have := of_decide_eq_true hlt; omega
    obtain ⟨g, o, hp⟩ := hth (by omega)
    refine ⟨by omega, ptrK_intro g o hp fun w G2 cx => ⟨key[i], ?_, Br.intro (fun h => fun w G2 cx => bad ?_ cx) (fun h => ⟨by unfold I64; omega, _, Φ1, key.length - (i + 1), inferInstance, fun w G cx => cx, ⟨i + 1, by omega, hlt, ?_, rfl, rfl, rfl⟩, by omega⟩)⟩⟩
    · have := hΦ.go _ _ cx.phi
      rw [hp] at this
      rw [Int.toNat_natCast]
      exact sl_int this hlt
    · rw [hok, List.any_eq_true.2 ⟨key[i], List.getElem_mem _, h⟩, Bool.not_true, Bool.and_false]
    · intro x hx
      rw [List.take_succ_eq_append_getElem hlt] at hx
      rcases List.mem_append.1 hx with hx | hx
      · exact hnn x hx
      · rw [List.mem_singleton.1 hx]; exact of_decide_eq_false h
  · have hge : i = key.length := by have := of_decide_eq_false hge; omega
    rw [hge, List.take_length] at hnn
    have hany : (key.any fun k => decide (k < 0)) = false := List.any_eq_false.2 fun x hx => by simpa using hnn x hx
    rw [hany, Bool.not_false, Bool.and_true] at hok
    clear cx
    refine Br.intro (fun h => fun w G2 cx => bad (by rw [hok, h]; rfl) cx) (fun h => fun kb w G2 cx => ?_)
    rw [h] at hok
    have hok : newOk kind key = true := hok
    obtain ⟨p1, c1, w1, cs1, hrun, cx1⟩ := Ctx.cloned (P := Tryz.prog) (ts := 22) (ty := 22) (kb := #[false, false]) (bytes := 8) (c2 := cap) (l := key) (q := p) cx (by kernel_rfl) int_one hΦ.go (by omega) (by omega)
    obtain ⟨cx2, hs, _, g1, g2⟩ := Ctx.freeze (α := Int) cx1 cx1.phi.2
    refine ⟨p1, _, c1, w1, hrun, R ++ G, (fun M w => Φ1 M w ∧ Sl M w p1 key), inferInstance, (cx2.add (Ψ := fun M w => Sl M w p1 key) hs).weak fun M w h => ⟨h.1.1, h.2⟩, fun k w G3 cx => ?_⟩
    clear cx1 cx2 hs
    have cx := Ctx.left (S := .blk k _ 39 :: (R ++ G)) (F := G3) cx
    have c2 := cx.nobuf 3 1
    obtain ⟨q, hqe⟩ : ∃ q : KP, q = ⟨k, p1, c1, none, 0, none, 0, [], none, 0⟩ := ⟨_, rfl⟩
    have c3 : Ctx W w ((RkO q (newK kind key) ++ R) ++ G) (fun M w => Φ1 M w ∧ RkF q (newK kind key) M w) := by
      rw [hqe]
      refine Ctx.weak (Φ := fun M w => Φ1 M w ∧ Sl M w p1 key) (c2.perm ?_) fun M w h => ⟨h.1, nilL, h.2, nilL⟩
      exact List.Perm.swap _ _ _
    have hq : RkQ q (newK kind key) := rkq_of (S := R ++ G) (c3.re (by simp)) (by rw [hqe]; exact ⟨Nat.le_refl _, Nat.zero_le _⟩) (by rw [hqe]; exact ⟨g1, g2⟩) (by rw [hqe]; exact ⟨Nat.le_refl _, Nat.zero_le _⟩)
    have := h1 q hok hq inferInstance
    refine ⟨some ⟨k, 0, none⟩, rfl, RkO q (newK kind key) ++ R, _, inferInstance, c3, ?_⟩
    rw [show k = q.sb by rw [hqe]]
    exact this
set_option maxHeartbeats 1000000 in
theorem Clone43_src [Stable Φ] (src : Src [] Φ p L cs) (hc : Rows7 cs L) (hlen : L.length ≤ 1000000) (hrow : ∀ x ∈ L, x.row.length ≤ 1000000) : GivesSl Φ Tryz.prog F.errataref43_Clone #[.slice p L.length cap] L id := by
  refine gives_sl (Berrataref43_Clone_run p L.length cap) fun W R => ?_
  refine exI_mk (fun p6 n c iI R' Φ' k => ∃ (i : Nat) (ds : List Value), iI = i ∧ i ≤ L.length ∧ n = (L.take i).length ∧ R' = bufL p6 (L.take i).length c ds :: R ∧ Φ' = (fun M w => Φ M w ∧ Elems M w ds (L.take i)) ∧ k = L.length - i) ⟨⟨bufL none 0 0 [] :: R, fun M w => Φ M w ∧ Elems M w [] ([] : List LineD), _, inferInstance, fun w G cx => (cx.nobuf 51 7).weak fun M w h => ⟨h, Elems.nil⟩, 0, [], rfl, Nat.zero_le _, rfl, rfl, rfl, rfl⟩, ?_⟩
  rintro p6 n c iI R1 Φ1 k _ ⟨i, ds, rfl, hi, rfl, rfl, rfl, rfl⟩
  have stE : ∀ (ds : List Value) (o : List LineD), Stable (fun M w => Φ M w ∧ Elems M w ds o) := fun ds o => inferInstance
  refine Br.intro (fun hlt => ?_) (fun hge => fun w G cx => ?_)
  · have hlt : i < L.length := by have := of_decide_eq_true hlt; omega
    obtain ⟨b, o, hp⟩ := src.ptr (by omega)
    obtain ⟨r, rc, he, h1, h2, h3⟩ := hc i hlt
    have hx : L[i].row.length ≤ 1000000 := hrow _ (List.getElem_mem hlt)
    obtain ⟨x, hxe⟩ : ∃ x, L[i] = x := ⟨_, rfl⟩
    have hsl : ∀ M w, Φ M w → Sl M w r x.row := fun M w h => by rw [← hxe]; exact src_sl src hlt he h
    have hrd : ∀ {w : World} {G : List Own}, Ctx W w ((bufL p6 (L.take i).length c ds :: R) ++ G) (fun M w => Φ M w ∧ Elems M w ds (L.take i)) → RowAt w b (o + ((i : Nat) : Int).toNat * 7) (x.cells r rc) := fun {w G} cx => by
      rw [Int.toNat_natCast, ← hxe]
      exact src_at (S := []) (G := (bufL p6 (L.take i).length c ds :: R) ++ G) src hp cx.fst he
    have hst : L.take (i + 1) = L.take i ++ [x] := by rw [List.take_succ_eq_append_getElem hlt, hxe]
    rw [hxe] at hx h3
    obtain ⟨o1, ho1⟩ : ∃ o1, L.take i = o1 := ⟨_, rfl⟩
    have ho1l : o1.length ≤ 1000000 := by rw [← ho1, List.length_take]; omega
    rw [ho1] at hst
    simp only [ho1] at hrd ⊢
    refine ⟨by omega, ptrK_intro b o hp fun w G cx => ⟨x.no, x.batch, x.time, r, x.row.length, rc, x.n, x.cause, x.why, hrd cx, fun _ kb w G cx => ?_⟩⟩
    obtain ⟨p2, c2, w2, cs2, hrun, cx1⟩ := Ctx.cloned (P := Tryz.prog) (ts := 49) (ty := 49) (kb := #[false, false]) (bytes := 32) (c2 := rc) (l := x.row) (q := r) cx (by kernel_rfl) val_one (fun M w h => hsl M w h.1) (by omega) (by omega)
    obtain ⟨cx2, hs, _, g1, g2⟩ := Ctx.freeze (α := ValD) cx1 cx1.phi.2
    have stP : Stable (fun M w => Φ M w ∧ Sl M w p2 x.row) := inferInstance
    have stQ : Stable (fun M w => (Φ M w ∧ Sl M w p2 x.row) ∧ Elems M w ds o1) := instStableAnd (fun M w => Φ M w ∧ Sl M w p2 x.row) (fun M w => Elems M w ds o1)
    refine ⟨p2, _, c2, w2, hrun, bufL p6 o1.length c ds :: R, (fun M w => (Φ M w ∧ Sl M w p2 x.row) ∧ Elems M w ds o1), stQ, (cx2.add (Ψ := fun M w => Sl M w p2 x.row) hs).weak fun M w h => ⟨⟨h.1.1.1, h.2⟩, h.1.1.2⟩, fun k2 w G cx => ?_⟩
    clear cx1 cx2 hs
    obtain ⟨p', c', w', hrun', cx'⟩ := pushK (PS := fun M w => Φ M w ∧ Sl M w p2 x.row) (x := x) (a := p2) (ac := c2) (fun M w h => rep_line g1 g2 h3 h.2) (by omega) cx
    refine ⟨p', _, c', w', hrun', _, _, instStableAnd Φ (fun M w => Elems M w (ds ++ x.cells p2 c2) (o1 ++ [x])), cx'.weak fun M w h => ⟨h.1.1, h.2⟩, by unfold I64; omega, _, _, L.length - (i + 1), stE _ _, fun w G cx => cx, ⟨i + 1, _, by omega, hlt, by rw [hst], by rw [hst], by rw [hst], rfl⟩, by omega⟩
  · have hge : i = L.length := by have := of_decide_eq_false hge; omega
    subst hge
    rw [List.take_length] at cx ⊢
    obtain ⟨cx2, hs, _, g1, g2⟩ := Ctx.freeze (α := LineD) cx cx.phi.2
    exact ⟨p6, c, rfl, g1, g2, ((cx2.add (Ψ := fun M w => Sl M w p6 L) hs).left).weak fun M w h => ⟨h.1.1, h.2⟩⟩
theorem Clone43_sl [Stable Φ] [hΦ : Has Φ (fun M w => Sl M w p L)] (hlen : L.length ≤ 1000000) (hrow : ∀ x ∈ L, x.row.length ≤ 1000000) : GivesSl Φ Tryz.prog F.errataref43_Clone #[.slice p L.length cap] L id :=
  .there (fun M w h => (hΦ.go M w h).there) fun hth => ⟨fun W w S c => by
    obtain ⟨cs, c1⟩ := srcOf c (hΦ.go _ _ c.phi)
    refine ((Clone43_src (Φ := fun M w => Φ M w ∧ SrcF p L cs M w) (src_fact (Φ := fun M w => Φ M w ∧ SrcF p L cs M w) hth (fun M w h => h.2)) (rows7 c1.phi.2.2) hlen hrow).go W w S c1).mono fun e w' ⟨p', c', he, h1, h2, c2⟩ => ⟨p', c', he, h1, h2, c2.weak fun M w h => ⟨h.1.1, h.2⟩⟩⟩
end
end Go.Proofs.YtemhapmbcbbljaaGreatDoor
end

section
namespace Go.Proofs.YtemhapmbcbbljaaGreatDoor
open Go.Vc
section
variable {Φ : PW} {q : KP} {st : SkD} {W w : World} {R S G : List Own} {p : Option Addr} {cap : Nat} {L : List LineD} {cs : List Value}
set_option maxHeartbeats 2000000 in
theorem Look43_src [Stable Φ] {b : Int} [hF : Has Φ (RkF q st)] (hq : RkQ q st) (hll : st.lines.length ≤ 400000) (hkl : st.key.length ≤ 10000000) (src : Src [] Φ p L cs) (hc : Rows7 cs L) (hlen : L.length ≤ 1000000) :
    GivesQ (RkO q st) Φ Tryz.prog F.errataref43_Sink_look #[snk q, .int .i64 b, .slice p L.length cap] (.int .i64 (lookK st b L)) := by
  refine gives_q (Berrataref43_Sink_look_run q.sb 0 b p L.length cap) fun W R => ?_
  unfold lookK
  refine Br.intro (fun h => fun w G cx => ⟨by rw [if_pos (of_decide_eq_true h)], cx.left⟩) (fun h => ?_)
  rw [if_neg (of_decide_eq_false h)]
  refine fun w G cx => (Last43_q hq).toI cx ?_
  clear cx
  refine Br.intro (fun h => fun w G cx => ⟨by rw [if_pos (of_decide_eq_true h)], cx.left⟩) (fun h => ?_)
  rw [if_neg (of_decide_eq_false h)]
  have hkey : ∀ M w, Φ M w → Sl M w q.kp st.key := fun M w h => (hF.go M w h).2.1
  refine exI_mk (fun iI R' Φ' k => ∃ i : Nat, iI = i ∧ i ≤ L.length ∧ R' = RkO q st ++ R ∧ Φ' = Φ ∧ k = L.length - i ∧ L.any (badK st.key b) = (L.drop i).any (badK st.key b)) ⟨⟨_, _, _, inferInstance, fun w G cx => cx, 0, rfl, Nat.zero_le _, rfl, rfl, rfl, rfl⟩, ?_⟩
  rintro iI R1 Φ1 k _ ⟨i, rfl, hi, rfl, rfl, rfl, hor⟩
  refine Br.intro (fun hlt => ?_) (fun hge => ?_)
  · have hlt : i < L.length := by have := of_decide_eq_true hlt; omega
    obtain ⟨bb, o, hp⟩ := src.ptr (by omega)
    obtain ⟨r, rc, he, h1, h2, h3⟩ := hc i hlt
    have hsl : ∀ M w, Φ1 M w → Sl M w r L[i].row := fun M w h => src_sl src hlt he h
    rw [List.drop_eq_getElem_cons hlt, List.any_cons] at hor
    have bad : badK st.key b L[i] = true → L.any (badK st.key b) = true := fun h => by rw [hor, h]; rfl
    have stop : L.any (badK st.key b) = true → ∀ {w : World} {G : List Own}, Ctx W w ((RkO q st ++ R) ++ G) Φ1 → (Value.int .i64 1) = .int .i64 (if L.any (badK st.key b) = true then 1 else if numK ((st.lines.length : Int) + 1) L = false then 25 else 0) ∧ Ctx W w (RkO q st ++ R) Φ1 := fun h {w G} cx => ⟨by rw [if_pos h], cx.left⟩
    have hrd : ∀ {w : World} {G : List Own}, Ctx W w ((RkO q st ++ R) ++ G) Φ1 → RowAt w bb (o + ((i : Nat) : Int).toNat * 7) (L[i].cells r rc) := fun {w G} cx => by
      rw [Int.toNat_natCast]
      exact src_at (S := []) (G := (RkO q st ++ R) ++ G) src hp cx he
    obtain ⟨x, hx⟩ : ∃ x, L[i] = x := ⟨_, rfl⟩
    rw [hx] at hsl hor bad hrd h1 h3
    unfold maxLen at h2
    refine ⟨by omega, ptrK_intro bb o hp fun w G cx => ⟨x.no, x.batch, x.time, r, x.row.length, rc, x.n, x.cause, x.why, hrd cx, fun _ => ?_⟩⟩
    clear cx
    refine Br.intro (fun g1 => fun w G cx => stop (bad (by unfold badK; rw [g1]; rfl)) cx) (fun g1 => Br.intro (fun g2 => fun w G cx => stop (bad (by unfold badK; rw [g2, Bool.or_true]; rfl)) cx) (fun g2 => fun w G cx => (RightRow3_in r rc x.row hsl (by omega)).toB cx ?_))
    clear cx
    refine Br.intro (fun g3 => fun w G cx => stop (bad (by unfold badK; rw [g3, Bool.or_true]; rfl)) cx) (fun g3 => ?_)
    refine exI_mk (fun jI R' Φ' k => ∃ j : Nat, jI = j ∧ j ≤ st.key.length ∧ R' = RkO q st ++ R ∧ Φ' = Φ1 ∧ k = st.key.length - j ∧ shortK st.key x.row = (st.key.drop j).any fun k => decide ((x.row.length : Int) ≤ k)) ⟨⟨_, _, _, inferInstance, fun w G cx => cx, 0, rfl, Nat.zero_le _, rfl, rfl, rfl, rfl⟩, ?_⟩
    rintro jI R2 Φ2 k2 _ ⟨j, rfl, hj, rfl, rfl, rfl, hsh⟩
    refine fun w G cx => ⟨_, _, _, rk_cell (i := 1) cx rfl, ?_⟩
    have hth := (hkey _ _ cx.phi).there
    clear cx
    refine Br.intro (fun hlt2 => fun w G cx => ⟨_, _, _, rk_cell (i := 1) cx rfl, ?_⟩) (fun hge2 => ?_)
    · have hlt2 : j < st.key.length := by have := of_decide_eq_true hlt2; omega
      obtain ⟨kb, ko, hkp⟩ := hth (by omega)
      rw [List.drop_eq_getElem_cons hlt2, List.any_cons] at hsh
      refine ⟨by omega, ptrK_intro kb ko hkp ⟨st.key[j], ?_, ?_⟩⟩
      · have := hkey _ _ cx.phi
        rw [hkp] at this
        rw [Int.toNat_natCast]
        exact sl_int this hlt2
      clear cx
      refine Br.intro (fun g4 => fun w G cx => stop (bad ?_) cx) (fun g4 => ⟨by unfold I64; omega, _, Φ2, st.key.length - (j + 1), inferInstance, fun w G cx => cx, ⟨j + 1, by omega, hlt2, rfl, rfl, rfl, by rw [hsh, g4, Bool.false_or]⟩, by omega⟩)
      unfold badK
      rw [hsh, g4, Bool.true_or, Bool.or_true]
    · have hge2 : j = st.key.length := by have := of_decide_eq_false hge2; omega
      rw [hge2, List.drop_length] at hsh
      have hok : badK st.key b x = false := by unfold badK; rw [g1, g2, g3, hsh]; rfl
      exact ⟨by unfold I64; omega, _, Φ2, L.length - (i + 1), inferInstance, fun w G cx => cx, ⟨i + 1, by omega, hlt, rfl, rfl, rfl, by rw [hor, hok, Bool.false_or]⟩, by omega⟩
  have hge : i = L.length := by have := of_decide_eq_false hge; omega
  subst hge
  rw [List.drop_length] at hor
  have hor : L.any (badK st.key b) = false := hor
  rw [if_neg (by rw [hor]; simp)]
  refine exI_mk (fun iI R' Φ' k => ∃ i : Nat, iI = i ∧ i ≤ L.length ∧ R' = RkO q st ++ R ∧ Φ' = Φ1 ∧ k = L.length - i ∧ numK ((st.lines.length : Int) + 1) L = numK ((st.lines.length : Int) + 1 + i) (L.drop i)) ⟨⟨_, _, _, inferInstance, fun w G cx => cx, 0, rfl, Nat.zero_le _, rfl, rfl, rfl, by rw [Int.natCast_zero, Int.add_zero]; rfl⟩, ?_⟩
  rintro iI R1 Φ2 k _ ⟨i, rfl, hi, rfl, rfl, rfl, hnu⟩
  refine Br.intro (fun hlt => fun w G cx => ?_) (fun hge => fun w G cx => ⟨?_, cx.left⟩)
  · have hlt : i < L.length := by have := of_decide_eq_true hlt; omega
    obtain ⟨bb, o, hp⟩ := src.ptr (by omega)
    obtain ⟨r, rc, he, h1, h2, h3⟩ := hc i hlt
    rw [List.drop_eq_getElem_cons hlt] at hnu
    have hnu : numK ((st.lines.length : Int) + 1) L = (decide (L[i].no = (st.lines.length : Int) + 1 + i) && numK ((st.lines.length : Int) + 1 + i + 1) (L.drop (i + 1))) := hnu
    have hcell : w.cell? ⟨bb, o + ((i : Nat) : Int).toNat * 7, none⟩ = some (.int .i64 L[i].no) := by
      rw [Int.toNat_natCast]
      exact src_at (S := []) (G := (RkO q st ++ R) ++ G) src hp cx he 0 (by show 0 < 7; decide)
    refine ⟨by omega, ptrK_intro bb o hp ⟨L[i].no, hcell, _, _, _, rk_cell (i := 3) cx rfl, by unfold I64; omega, by unfold I64; omega, ?_⟩⟩
    clear cx hcell
    refine Br.intro (fun h => fun w G cx => ⟨?_, cx.left⟩) (fun h => ⟨by unfold I64; omega, _, Φ2, L.length - (i + 1), inferInstance, fun w G cx => cx, ⟨i + 1, rfl, hlt, rfl, rfl, rfl, ?_⟩, by omega⟩)
    · rw [hnu, decide_eq_false (of_decide_eq_true h), Bool.false_and, if_pos rfl]
    · rw [hnu, decide_eq_true (Decidable.not_not.1 (of_decide_eq_false h)), Bool.true_and, show (st.lines.length : Int) + 1 + i + 1 = (st.lines.length : Int) + 1 + ((i + 1 : Nat) : Int) by omega]
  · have hge : i = L.length := by have := of_decide_eq_false hge; omega
    subst hge
    rw [List.drop_length] at hnu
    rw [show numK ((st.lines.length : Int) + 1) L = true from hnu]; rfl
theorem Look43_q [Stable Φ] {b : Int} [hF : Has Φ (RkF q st)] [hL : Has Φ (fun M w => Sl M w p L)] (hq : RkQ q st) (hll : st.lines.length ≤ 400000) (hkl : st.key.length ≤ 10000000) (hlen : L.length ≤ 400000) :
    GivesQ (RkO q st) Φ Tryz.prog F.errataref43_Sink_look #[snk q, .int .i64 b, .slice p L.length cap] (.int .i64 (lookK st b L)) :=
  ⟨fun W w S c => by
    have hth := (hL.go _ _ c.phi).there
    obtain ⟨cs, c1⟩ := srcOf c (hL.go _ _ c.phi)
    exact ((Look43_src (Φ := fun M w => Φ M w ∧ SrcF p L cs M w) hq hll hkl (src_fact (Φ := fun M w => Φ M w ∧ SrcF p L cs M w) hth fun M w h => h.2) (rows7 c1.phi.2.2) (by omega)).go W w S c1).mono fun e w' ⟨he, c2⟩ => ⟨he, c2.fst⟩⟩
set_option maxHeartbeats 2000000 in
theorem take43_use [Stable Φ] {b : Int} [hF : Has Φ (RkF q st)] [hL : Has Φ (fun M w => Sl M w p L)] (hq : RkQ q st) (hll : st.lines.length ≤ 400000) (hbl : st.bats.length ≤ 8000000) (hlen : L.length ≤ 400000) (c : Ctx W w ((RkO q st ++ R) ++ G) Φ) {K : List Own → PW → Prop}
    (hk : ∀ q' : KP, q'.sb = q.sb → RkQ q' (takeK st b L) → Stable (fun M w => Φ M w ∧ RkF q' (takeK st b L) M w) → K (RkO q' (takeK st b L) ++ R) (fun M w => Φ M w ∧ RkF q' (takeK st b L) M w)) :
    Calls Tryz.prog F.errataref43_Sink_take #[snk q, .int .i64 b, .slice p L.length cap] w fun e w' => e = .returned (.tuple #[]) ∧ ∃ R' Φ', Stable Φ' ∧ Ctx W w' (R' ++ G) Φ' ∧ K R' Φ' := by
  refine (Berrataref43_Sink_take_run q.sb 0 b p L.length cap (R := (RkO q st ++ R) ++ G) (J := fun v w' => v = .tuple #[] ∧ ∃ R' Φ', Stable Φ' ∧ Ctx W w' (R' ++ G) Φ' ∧ K R' Φ') c ?_).mono fun e w' ⟨v, he, hv, rest⟩ => ⟨by rw [he, hv], rest⟩
  clear c
  refine fun w G2 cx => ⟨_, _, _, rk_cell (q := q) (st := st) (R := R ++ G) (G := G2) (i := 2) (cx.re (by simp)) rfl, fun kb w G2 cx => ?_⟩
  have cy : Ctx W w (.blk kb [.int .i64 b] 3 :: bufZ q.bp q.bc st.bats :: (.blk q.sb (SkB q st) 39 :: (R ++ G)) ++ G2) Φ := cx.perm (by simpa using List.Perm.swap _ _ _)
  obtain ⟨p8, c8, w2, hrun, cz⟩ := pushZ (by omega) cy
  refine ⟨p8, _, c8, w2, hrun, .blk q.sb (SkB q st) 39 :: bufZ p8 c8 (st.bats ++ [b]) :: (R ++ G), Φ, inferInstance, Ctx.swap cz, fun w G3 cx => ⟨cx.can 0 rfl (by show 2 + 1 ≤ 6; decide), fun w3 hw3 => ?_⟩⟩
  have c5 := cx.put 0 hw3 rfl
  refine ⟨.blk q.sb [.int .i64 st.kind, .slice q.kp st.key.length q.kc, .slice p8 (st.bats ++ [b]).length c8, .slice q.lp st.lines.length q.lc, .int .i64 st.prep, .slice q.ap st.aside.length q.ac] 39 :: bufZ p8 c8 (st.bats ++ [b]) :: (R ++ G), Φ, inferInstance, c5, fun k19 w G4 cx => ⟨_, _, _, cx.get 1 rfl rfl, fun w G4 cx => ?_⟩⟩
  clear c5 cz cy
  obtain ⟨p27, c27, w30, cs1, hrun1, cx1⟩ := Ctx.cloned (P := Tryz.prog) (ts := 33) (ty := 33) (kb := #[false, false]) (bytes := 72) (c2 := q.lc) (l := st.lines) (q := q.lp) cx (by kernel_rfl) line_one (fun M w h => (hF.go M w h).1) (by omega) (by omega)
  refine ⟨p27, _, c27, w30, hrun1, bufL p27 st.lines.length c27 cs1 :: .blk q.sb [.int .i64 st.kind, .slice q.kp st.key.length q.kc, .slice p8 (st.bats ++ [b]).length c8, .slice q.lp st.lines.length q.lc, .int .i64 st.prep, .slice q.ap st.aside.length q.ac] 39 :: bufZ p8 c8 (st.bats ++ [b]) :: (R ++ G), (fun M w => Φ M w ∧ Elems M w cs1 st.lines), inferInstance, cx1, fun w G5 cx => ?_⟩
  clear cx1
  obtain ⟨p2, c2, w4, news, hrun2, cx3⟩ := Ctx.appAny (P := Tryz.prog) (ts := 33) (ty := 33) (kb := #[false, false]) (bytes := 72) (c2 := cap) (l := L) (q := p) cx (by kernel_rfl) line_one (fun M w h => hL.go M w h.1) (by omega) (by omega)
  have hel : st.lines.length + L.length = (st.lines ++ L).length := by rw [List.length_append]
  rw [hel] at hrun2 cx3
  obtain ⟨cx4, hsl, _, f1, f2⟩ := Ctx.freeze (α := LineD) cx3 (cx3.phi.1.2.append cx3.phi.2)
  have cx5 := cx4.add (Ψ := fun M w => Sl M w p2 (st.lines ++ L)) hsl
  refine ⟨p2, _, c2, w4, hrun2, .blk q.sb [.int .i64 st.kind, .slice q.kp st.key.length q.kc, .slice p8 (st.bats ++ [b]).length c8, .slice q.lp st.lines.length q.lc, .int .i64 st.prep, .slice q.ap st.aside.length q.ac] 39 :: bufZ p8 c8 (st.bats ++ [b]) :: (R ++ G), (fun M w => Φ M w ∧ Sl M w p2 (st.lines ++ L)), inferInstance, cx5.weak fun M w h => ⟨h.1.1.1, h.2⟩, fun w G6 cx => ⟨cx.can 0 rfl (by show 3 + 1 ≤ 6; decide), fun w5 hw5 => ?_⟩⟩
  clear cx3 cx4 cx5 hsl
  have c6 := cx.put 0 hw5 rfl
  obtain ⟨q2, hq2⟩ : ∃ q2 : KP, q2 = ⟨q.sb, q.kp, q.kc, p8, c8, p2, c2, [], q.ap, q.ac⟩ := ⟨_, rfl⟩
  have c7 : Ctx W w5 ((RkO q2 (takeK st b L) ++ R) ++ (G ++ G6)) (fun M w => Φ M w ∧ RkF q2 (takeK st b L) M w) := by
    rw [hq2]
    have c8 := c6.weak (Ψ := fun M w => Φ M w ∧ RkF ⟨q.sb, q.kp, q.kc, p8, c8, p2, c2, [], q.ap, q.ac⟩ (takeK st b L) M w) fun M w h => ⟨h.1, h.2, (hF.go M w h.1).2⟩
    exact c8.re (by simp [takeK])
  have hq' : RkQ q2 (takeK st b L) := rkq_of (S := R ++ (G ++ G6)) (c7.re (by simp)) (by rw [hq2]; exact ⟨f1, f2⟩) (by rw [hq2]; exact hq.kcap) (by rw [hq2]; exact hq.acap)
  exact ⟨RkO q2 (takeK st b L) ++ (R ++ G), _, inferInstance, c7.re (by simp), fun w G7 cx => ⟨rfl, RkO q2 (takeK st b L) ++ R, _, inferInstance, (cx.left).re (by simp), hk q2 (by rw [hq2]) hq' inferInstance⟩⟩
end
end Go.Proofs.YtemhapmbcbbljaaGreatDoor
end

section
namespace Go.Proofs.YtemhapmbcbbljaaGreatDoor
open Go.Vc
section
variable {Φ : PW} {q : KP} {st : SkD} {W w : World} {R S G : List Own} {p : Option Addr} {cap : Nat} {L : List LineD} {cs : List Value}
theorem rk_put {w' : World} [Stable Φ] (cx : Ctx W w (RkO q st ++ S) Φ) {i : Nat} {v : Value} (e : w' = w.setCell ⟨q.sb, i, none⟩ v) : Ctx W w' (.blk q.sb ((SkB q st).set i v) 39 :: bufZ q.bp q.bc st.bats :: S) Φ := cx.put 0 e rfl
theorem rk_can (cx : Ctx W w (RkO q st ++ S) Φ) {i : Nat} (h : i < 6) : CanWrite w q.sb i 1 := cx.can 0 rfl (by show i + 1 ≤ 6; omega)
set_option maxHeartbeats 2000000 in
theorem Prepare43_use [Stable Φ] {b : Int} [hF : Has Φ (RkF q st)] [hL : Has Φ (fun M w => Sl M w p L)] (hq : RkQ q st) (hI : SkI st) {n : Nat} (hs : SkS st n) (hn : n ≤ 400000) (hlen : L.length ≤ 400000) (c : Ctx W w ((RkO q st ++ R) ++ G) Φ) {K : Int → List Own → PW → Prop}
    (hk : ∀ q' : KP, q'.sb = q.sb → RkQ q' (prepK st b L).2 → Stable (fun M w => Φ M w ∧ RkF q' (prepK st b L).2 M w) → K (prepK st b L).1 (RkO q' (prepK st b L).2 ++ R) (fun M w => Φ M w ∧ RkF q' (prepK st b L).2 M w)) :
    Calls Tryz.prog F.errataref43_Sink_Prepare #[snk q, .int .i64 b, .slice p L.length cap] w fun e w' => ∃ n, e = .returned (.int .i64 n) ∧ ∃ R' Φ', Stable Φ' ∧ Ctx W w' (R' ++ G) Φ' ∧ K n R' Φ' := by
  refine (Berrataref43_Sink_Prepare_run q.sb 0 b p L.length cap (R := (RkO q st ++ R) ++ G) (J := fun v w' => ∃ n, v = .int .i64 n ∧ ∃ R' Φ', Stable Φ' ∧ Ctx W w' (R' ++ G) Φ' ∧ K n R' Φ') c ?_).mono fun e w' ⟨v, he, n, hv, rest⟩ => ⟨n, by rw [he, hv], rest⟩
  clear c
  have same : ∀ (m : Int), prepK st b L = (m, st) → ∀ {w : World} {G2 : List Own}, Ctx W w ((RkO q st ++ (R ++ G)) ++ G2) Φ → ∃ n, Value.int .i64 m = .int .i64 n ∧ ∃ R' Φ', Stable Φ' ∧ Ctx W w (R' ++ G) Φ' ∧ K n R' Φ' := fun m h {w G2} cx => by
    have := hk q rfl
    rw [h] at this
    exact ⟨m, rfl, RkO q st ++ R, _, inferInstance, ((cx.left).re (by simp)).weak fun M w h => ⟨h, hF.go M w h⟩, this hq inferInstance⟩
  refine fun w G2 cx => ⟨st.kind, cx.get 0 rfl rfl, ?_⟩
  clear cx
  have e0 : prepK st b L = if st.kind ≠ 0 then (7, st) else if hasK st b = true then (0, st) else if lookK st b L ≠ 0 then (lookK st b L, st) else (0, { st with prep := b, aside := L }) := rfl
  refine Br.intro (fun h => fun w G2 cx => same 7 (by rw [e0, if_pos (of_decide_eq_true h)]) (G2 := G2) (cx.re (by simp))) (fun h => fun w G2 cx => ?_)
  rw [if_neg (of_decide_eq_false h)] at e0
  refine (Has43_q hq).toB (R := R ++ G) (cx.re (by simp)) ?_
  clear cx
  refine Br.intro (fun h => fun w G2 cx => same 0 (by rw [e0, if_pos h]) cx) (fun h => fun w G2 cx => ?_)
  rw [if_neg (by rw [h]; simp)] at e0
  refine (Look43_q hq (by have := hs.lines; omega) (by have := hs.key; omega) hlen).toI (R := R ++ G) cx ?_
  clear cx
  refine Br.intro (fun h => fun w G2 cx => same _ (by rw [e0, if_pos (of_decide_eq_true h)]) cx) (fun h => fun w G2 cx => ?_)
  rw [if_neg (of_decide_eq_false h)] at e0
  obtain ⟨_, _, g3, _⟩ := look_ok (of_decide_eq_false h)
  refine ⟨rk_can (q := q) (st := st) (S := (R ++ G) ++ G2) (cx.re (by simp)) (by decide), fun w2 hw2 => ?_⟩
  have c2 := rk_put (q := q) (st := st) (S := (R ++ G) ++ G2) (cx.re (by simp)) hw2
  refine ⟨.blk q.sb [.int .i64 st.kind, .slice q.kp st.key.length q.kc, .slice q.bp st.bats.length q.bc, .slice q.lp st.lines.length q.lc, .int .i64 b, .slice q.ap st.aside.length q.ac] 39 :: bufZ q.bp q.bc st.bats :: (R ++ G), Φ, inferInstance, c2, fun w G4 cx => (Clone43_sl (L := L) (by omega) fun x hx => by have := right_len (bad_right (g3 x hx)).2.2.1; omega).to cx fun p1 c1 f1 f2 st1 => ?_⟩
  clear c2 cx
  refine fun w G4 cx => ⟨cx.can 0 rfl (by show 5 + 1 ≤ 6; decide), fun w3 hw3 => ?_⟩
  have c4 := cx.put 0 hw3 rfl
  obtain ⟨q2, hq2⟩ : ∃ q2 : KP, q2 = ⟨q.sb, q.kp, q.kc, q.bp, q.bc, q.lp, q.lc, q.cs, p1, c1⟩ := ⟨_, rfl⟩
  obtain ⟨st2, hst2⟩ : ∃ st2 : SkD, st2 = { st with prep := b, aside := L } := ⟨_, rfl⟩
  rw [← hst2] at e0
  have c7 : Ctx W w3 ((RkO q2 st2 ++ R) ++ (G ++ G4)) (fun M w => Φ M w ∧ RkF q2 st2 M w) := by
    rw [hq2, hst2]
    have c8 := c4.weak (Ψ := fun M w => Φ M w ∧ RkF ⟨q.sb, q.kp, q.kc, q.bp, q.bc, q.lp, q.lc, q.cs, p1, c1⟩ { st with prep := b, aside := L } M w) fun M w h => ⟨h.1, (hF.go M w h.1).1, (hF.go M w h.1).2.1, h.2⟩
    exact c8.re (by simp)
  have hq' : RkQ q2 st2 := rkq_of (S := R ++ (G ++ G4)) (c7.re (by simp)) (by rw [hq2, hst2]; exact hq.lcap) (by rw [hq2, hst2]; exact hq.kcap) (by rw [hq2, hst2]; exact ⟨f1, f2⟩)
  rw [e0] at hk
  exact ⟨RkO q2 st2 ++ (R ++ G), _, inferInstance, c7.re (by simp), fun w G6 cx => ⟨0, rfl, RkO q2 st2 ++ R, _, inferInstance, (cx.left).re (by simp), hk q2 (by rw [hq2]) hq' inferInstance⟩⟩
set_option maxHeartbeats 2000000 in
theorem Abort43_use [Stable Φ] {b : Int} [hF : Has Φ (RkF q st)] (hq : RkQ q st) (hI : SkI st) {n : Nat} (hs : SkS st n) (hn : n ≤ 400000) (c : Ctx W w ((RkO q st ++ R) ++ G) Φ) {K : Int → List Own → PW → Prop}
    (hk : ∀ q' : KP, q'.sb = q.sb → RkQ q' (abortK st b).2 → Stable (fun M w => Φ M w ∧ RkF q' (abortK st b).2 M w) → K (abortK st b).1 (RkO q' (abortK st b).2 ++ R) (fun M w => Φ M w ∧ RkF q' (abortK st b).2 M w)) :
    Calls Tryz.prog F.errataref43_Sink_Abort #[snk q, .int .i64 b] w fun e w' => ∃ n, e = .returned (.int .i64 n) ∧ ∃ R' Φ', Stable Φ' ∧ Ctx W w' (R' ++ G) Φ' ∧ K n R' Φ' := by
  refine (Berrataref43_Sink_Abort_run q.sb 0 b (R := (RkO q st ++ R) ++ G) (J := fun v w' => ∃ n, v = .int .i64 n ∧ ∃ R' Φ', Stable Φ' ∧ Ctx W w' (R' ++ G) Φ' ∧ K n R' Φ') c ?_).mono fun e w' ⟨v, he, n, hv, rest⟩ => ⟨n, by rw [he, hv], rest⟩
  clear c
  have same : ∀ (m : Int), abortK st b = (m, st) → ∀ {w : World} {G2 : List Own}, Ctx W w ((RkO q st ++ (R ++ G)) ++ G2) Φ → ∃ n, Value.int .i64 m = .int .i64 n ∧ ∃ R' Φ', Stable Φ' ∧ Ctx W w (R' ++ G) Φ' ∧ K n R' Φ' := fun m h {w G2} cx => by
    have := hk q rfl
    rw [h] at this
    exact ⟨m, rfl, RkO q st ++ R, _, inferInstance, ((cx.left).re (by simp)).weak fun M w h => ⟨h, hF.go M w h⟩, this hq inferInstance⟩
  refine fun w G2 cx => ⟨st.kind, cx.get 0 rfl rfl, ?_⟩
  clear cx
  have e0 : abortK st b = if st.kind ≠ 0 then (7, st) else if hasK st b = true then (7, st) else if (decide (b < 1) || decide (b ≠ st.prep)) = true then (4, st) else (0, { st with prep := 0, aside := [] }) := rfl
  refine Br.intro (fun h => fun w G2 cx => same 7 (by rw [e0, if_pos (of_decide_eq_true h)]) (G2 := G2) (cx.re (by simp))) (fun h => fun w G2 cx => ?_)
  rw [if_neg (of_decide_eq_false h)] at e0
  refine (Has43_q hq).toB (R := R ++ G) (cx.re (by simp)) ?_
  clear cx
  refine Br.intro (fun h => fun w G2 cx => same 7 (by rw [e0, if_pos h]) cx) (fun h => fun w G2 cx => ⟨st.prep, fun _ => rk_cell (R := R ++ G) (i := 4) cx rfl, ?_⟩)
  rw [if_neg (by rw [h]; simp)] at e0
  clear cx
  rw [show decide (st.prep ≠ b) = decide (b ≠ st.prep) from decide_eq_decide.2 ne_comm]
  refine Br.intro (fun h => fun w G2 cx => same 4 (by rw [e0, if_pos h]) cx) (fun h => fun w G3 cx => ⟨rk_can (q := q) (st := st) (S := (R ++ G) ++ G3) (cx.re (by simp)) (by decide), fun w2 hw2 => ?_⟩)
  rw [if_neg (by rw [h]; simp)] at e0
  have c2 := rk_put (q := q) (st := st) (S := (R ++ G) ++ G3) (cx.re (by simp)) hw2
  refine ⟨.blk q.sb [.int .i64 st.kind, .slice q.kp st.key.length q.kc, .slice q.bp st.bats.length q.bc, .slice q.lp st.lines.length q.lc, .int .i64 0, .slice q.ap st.aside.length q.ac] 39 :: bufZ q.bp q.bc st.bats :: (R ++ G), _, inferInstance, c2, fun w G4 cx => ⟨cx.can 0 rfl (by show 5 + 1 ≤ 6; decide), fun w3 hw3 => ?_⟩⟩
  have c4 := cx.put 0 hw3 rfl
  obtain ⟨q2, hq2⟩ : ∃ q2 : KP, q2 = ⟨q.sb, q.kp, q.kc, q.bp, q.bc, q.lp, q.lc, q.cs, none, 0⟩ := ⟨_, rfl⟩
  obtain ⟨st2, hst2⟩ : ∃ st2 : SkD, st2 = { st with prep := 0, aside := [] } := ⟨_, rfl⟩
  rw [← hst2] at e0
  have c7 : Ctx W w3 ((RkO q2 st2 ++ R) ++ (G ++ G4)) (fun M w => Φ M w ∧ RkF q2 st2 M w) := by
    rw [hq2, hst2]
    have c8 := c4.weak (Ψ := fun M w => Φ M w ∧ RkF ⟨q.sb, q.kp, q.kc, q.bp, q.bc, q.lp, q.lc, q.cs, none, 0⟩ { st with prep := 0, aside := [] } M w) fun M w h => ⟨h, (hF.go M w h).1, (hF.go M w h).2.1, fun i hi => absurd hi (by simp)⟩
    exact c8.re (by simp)
  have hq' : RkQ q2 st2 := rkq_of (S := R ++ (G ++ G4)) (c7.re (by simp)) (by rw [hq2, hst2]; exact hq.lcap) (by rw [hq2, hst2]; exact hq.kcap) (by rw [hq2, hst2]; exact ⟨Nat.le_refl _, Nat.zero_le _⟩)
  rw [e0] at hk
  exact ⟨RkO q2 st2 ++ (R ++ G), _, inferInstance, c7.re (by simp), fun w G6 cx => ⟨0, rfl, RkO q2 st2 ++ R, _, inferInstance, (cx.left).re (by simp), hk q2 (by rw [hq2]) hq' inferInstance⟩⟩
set_option maxHeartbeats 2000000 in
theorem Commit43_use [Stable Φ] {b : Int} [hF : Has Φ (RkF q st)] (hq : RkQ q st) (hI : SkI st) {n : Nat} (hs : SkS st n) (hn : n ≤ 400000) (c : Ctx W w ((RkO q st ++ R) ++ G) Φ) {K : Int → List Own → PW → Prop}
    (hk : ∀ q' : KP, q'.sb = q.sb → RkQ q' (commK st b).2 → Stable (fun M w => Φ M w ∧ RkF q' (commK st b).2 M w) → K (commK st b).1 (RkO q' (commK st b).2 ++ R) (fun M w => Φ M w ∧ RkF q' (commK st b).2 M w)) :
    Calls Tryz.prog F.errataref43_Sink_Commit #[snk q, .int .i64 b] w fun e w' => ∃ n, e = .returned (.int .i64 n) ∧ ∃ R' Φ', Stable Φ' ∧ Ctx W w' (R' ++ G) Φ' ∧ K n R' Φ' := by
  have hal := hs.aside
  refine (Berrataref43_Sink_Commit_run q.sb 0 b (R := (RkO q st ++ R) ++ G) (J := fun v w' => ∃ n, v = .int .i64 n ∧ ∃ R' Φ', Stable Φ' ∧ Ctx W w' (R' ++ G) Φ' ∧ K n R' Φ') c ?_).mono fun e w' ⟨v, he, n, hv, rest⟩ => ⟨n, by rw [he, hv], rest⟩
  clear c
  have same : ∀ (m : Int), commK st b = (m, st) → ∀ {w : World} {G2 : List Own}, Ctx W w ((RkO q st ++ (R ++ G)) ++ G2) Φ → ∃ n, Value.int .i64 m = .int .i64 n ∧ ∃ R' Φ', Stable Φ' ∧ Ctx W w (R' ++ G) Φ' ∧ K n R' Φ' := fun m h {w G2} cx => by
    have := hk q rfl
    rw [h] at this
    exact ⟨m, rfl, RkO q st ++ R, _, inferInstance, ((cx.left).re (by simp)).weak fun M w h => ⟨h, hF.go M w h⟩, this hq inferInstance⟩
  refine fun w G2 cx => ⟨st.kind, cx.get 0 rfl rfl, ?_⟩
  clear cx
  have e0 : commK st b = if st.kind ≠ 0 then (7, st) else if hasK st b = true then (0, st) else if (decide (b < 1) || decide (b ≠ st.prep)) = true then (4, st) else (0, { takeK st b st.aside with prep := 0, aside := [] }) := rfl
  refine Br.intro (fun h => fun w G2 cx => same 7 (by rw [e0, if_pos (of_decide_eq_true h)]) (G2 := G2) (cx.re (by simp))) (fun h => fun w G2 cx => ?_)
  rw [if_neg (of_decide_eq_false h)] at e0
  refine (Has43_q hq).toB (R := R ++ G) (cx.re (by simp)) ?_
  clear cx
  refine Br.intro (fun h => fun w G2 cx => same 0 (by rw [e0, if_pos h]) cx) (fun h => fun w G2 cx => ⟨st.prep, fun _ => rk_cell (R := R ++ G) (i := 4) cx rfl, ?_⟩)
  rw [if_neg (by rw [h]; simp)] at e0
  clear cx
  rw [show decide (st.prep ≠ b) = decide (b ≠ st.prep) from decide_eq_decide.2 ne_comm]
  refine Br.intro (fun h => fun w G2 cx => same 4 (by rw [e0, if_pos h]) cx) (fun h => fun w G3 cx => ⟨_, _, _, rk_cell (R := R ++ G) (i := 5) cx rfl, fun w G3 cx => ?_⟩)
  rw [if_neg (by rw [h]; simp)] at e0
  have hasd : Has Φ (fun M w => Sl M w q.ap st.aside) := ⟨fun M w h => (hF.go M w h).2.2⟩
  refine take43_use (R := R ++ G) (L := st.aside) (b := b) hq (by have := hs.lines; omega) (by have := hs.bats; omega) (by omega) cx fun q1 hsb hq1 st1 => ?_
  clear cx
  rw [← hsb]
  obtain ⟨s1, hs1⟩ : ∃ s1, takeK st b st.aside = s1 := ⟨_, rfl⟩
  rw [hs1] at hq1 st1 e0 ⊢
  refine fun w G3 cx => ⟨rk_can (q := q1) (st := s1) (S := (R ++ G) ++ G3) (cx.re (by simp)) (by decide), fun w2 hw2 => ?_⟩
  have c2 := rk_put (q := q1) (st := s1) (S := (R ++ G) ++ G3) (cx.re (by simp)) hw2
  refine ⟨.blk q1.sb [.int .i64 s1.kind, .slice q1.kp s1.key.length q1.kc, .slice q1.bp s1.bats.length q1.bc, .slice q1.lp s1.lines.length q1.lc, .int .i64 0, .slice q1.ap s1.aside.length q1.ac] 39 :: bufZ q1.bp q1.bc s1.bats :: (R ++ G), _, st1, c2, fun w G4 cx => ⟨cx.can 0 rfl (by show 5 + 1 ≤ 6; decide), fun w3 hw3 => ?_⟩⟩
  have c4 := cx.put 0 hw3 rfl
  obtain ⟨q2, hq2⟩ : ∃ q2 : KP, q2 = ⟨q1.sb, q1.kp, q1.kc, q1.bp, q1.bc, q1.lp, q1.lc, q1.cs, none, 0⟩ := ⟨_, rfl⟩
  obtain ⟨st2, hst2⟩ : ∃ st2 : SkD, st2 = { s1 with prep := 0, aside := [] } := ⟨_, rfl⟩
  rw [← hst2] at e0
  have c7 : Ctx W w3 ((RkO q2 st2 ++ R) ++ (G ++ G4)) (fun M w => Φ M w ∧ RkF q2 st2 M w) := by
    rw [hq2, hst2]
    have c8 := c4.weak (Ψ := fun M w => Φ M w ∧ RkF ⟨q1.sb, q1.kp, q1.kc, q1.bp, q1.bc, q1.lp, q1.lc, q1.cs, none, 0⟩ { s1 with prep := 0, aside := [] } M w) fun M w h => ⟨h.1, h.2.1, h.2.2.1, fun i hi => absurd hi (by simp)⟩
    exact c8.re (by simp)
  have hq' : RkQ q2 st2 := rkq_of (S := R ++ (G ++ G4)) (c7.re (by simp)) (by rw [hq2, hst2]; exact hq1.lcap) (by rw [hq2, hst2]; exact hq1.kcap) (by rw [hq2, hst2]; exact ⟨Nat.le_refl _, Nat.zero_le _⟩)
  rw [e0] at hk
  exact ⟨RkO q2 st2 ++ (R ++ G), _, inferInstance, c7.re (by simp), fun w G6 cx => ⟨0, rfl, RkO q2 st2 ++ R, _, inferInstance, (cx.left).re (by simp), hk q2 (by rw [hq2]; exact hsb) hq' inferInstance⟩⟩
set_option maxHeartbeats 2000000 in
theorem Deliver43_use [Stable Φ] {b : Int} [hF : Has Φ (RkF q st)] [hL : Has Φ (fun M w => Sl M w p L)] (hq : RkQ q st) (hI : SkI st) {n : Nat} (hs : SkS st n) (hn : n ≤ 400000) (hlen : L.length ≤ 400000) (c : Ctx W w ((RkO q st ++ R) ++ G) Φ) {K : Int → List Own → PW → Prop}
    (hk : ∀ q' : KP, q'.sb = q.sb → RkQ q' (delivK st b L).2 → Stable (fun M w => Φ M w ∧ RkF q' (delivK st b L).2 M w) → K (delivK st b L).1 (RkO q' (delivK st b L).2 ++ R) (fun M w => Φ M w ∧ RkF q' (delivK st b L).2 M w)) :
    Calls Tryz.prog F.errataref43_Sink_Deliver #[snk q, .int .i64 b, .slice p L.length cap] w fun e w' => ∃ n, e = .returned (.int .i64 n) ∧ ∃ R' Φ', Stable Φ' ∧ Ctx W w' (R' ++ G) Φ' ∧ K n R' Φ' := by
  refine (Berrataref43_Sink_Deliver_run q.sb 0 b p L.length cap (R := (RkO q st ++ R) ++ G) (J := fun v w' => ∃ n, v = .int .i64 n ∧ ∃ R' Φ', Stable Φ' ∧ Ctx W w' (R' ++ G) Φ' ∧ K n R' Φ') c ?_).mono fun e w' ⟨v, he, n, hv, rest⟩ => ⟨n, by rw [he, hv], rest⟩
  clear c
  have same : ∀ (m : Int), delivK st b L = (m, st) → ∀ {w : World} {G2 : List Own}, Ctx W w ((RkO q st ++ (R ++ G)) ++ G2) Φ → ∃ n, Value.int .i64 m = .int .i64 n ∧ ∃ R' Φ', Stable Φ' ∧ Ctx W w (R' ++ G) Φ' ∧ K n R' Φ' := fun m h {w G2} cx => by
    have := hk q rfl
    rw [h] at this
    exact ⟨m, rfl, RkO q st ++ R, _, inferInstance, ((cx.left).re (by simp)).weak fun M w h => ⟨h, hF.go M w h⟩, this hq inferInstance⟩
  refine fun w G2 cx => ⟨st.kind, cx.get 0 rfl rfl, ?_⟩
  clear cx
  have e0 : delivK st b L = if st.kind = 0 then (7, st) else if hasK st b = true then (0, st) else if lookK st b L ≠ 0 then (lookK st b L, st) else (0, takeK st b L) := rfl
  refine Br.intro (fun h => fun w G2 cx => same 7 (by rw [e0, if_pos (of_decide_eq_true h)]) (G2 := G2) (cx.re (by simp))) (fun h => fun w G2 cx => ?_)
  rw [if_neg (of_decide_eq_false h)] at e0
  refine (Has43_q hq).toB (R := R ++ G) (cx.re (by simp)) ?_
  clear cx
  refine Br.intro (fun h => fun w G2 cx => same 0 (by rw [e0, if_pos h]) cx) (fun h => fun w G2 cx => ?_)
  rw [if_neg (by rw [h]; simp)] at e0
  refine (Look43_q hq (by have := hs.lines; omega) (by have := hs.key; omega) hlen).toI (R := R ++ G) cx ?_
  clear cx
  refine Br.intro (fun h => fun w G2 cx => ?_) (fun h => fun w G2 cx => same _ (by rw [e0, if_pos (of_decide_eq_false h)]) cx)
  have hz := of_decide_eq_true h
  rw [if_neg (by rw [hz]; simp)] at e0
  obtain ⟨_, _, g3, _⟩ := look_ok (s := st) (b := b) (L := L) (by rw [hz]; simp)
  refine (Clone43_sl (L := L) (by omega) fun x hx => by have := right_len (bad_right (g3 x hx)).2.2.1; omega).to cx fun p1 c1 f1 f2 st1 => ?_
  clear cx
  have hF2 : Has (fun M w => Φ M w ∧ Sl M w p1 L) (RkF q st) := ⟨fun M w h => hF.go M w h.1⟩
  refine fun w G3 cx => take43_use (Φ := fun M w => Φ M w ∧ Sl M w p1 L) (R := R ++ G) (L := L) (b := b) hq (by have := hs.lines; omega) (by have := hs.bats; omega) hlen cx fun q1 hsb hq1 st2 => ?_
  rw [e0] at hk
  rw [hz]
  exact fun w G6 cx => ⟨0, rfl, RkO q1 (takeK st b L) ++ R, _, inferInstance, ((cx.left).re (by simp)).weak fun M w h => ⟨h.1.1, h.2⟩, hk q1 hsb hq1 inferInstance⟩
theorem andZ_7 (a : Int) : 0 ≤ andZ a 7 ∧ andZ a 7 ≤ 7 := by
  unfold andZ
  have h : (BitVec.ofInt 64 a &&& BitVec.ofInt 64 7).toNat ≤ 7 := by
    rw [BitVec.toNat_and]
    exact Nat.le_trans Nat.and_le_right (by decide)
  rw [i64_wrap (by unfold I64; omega)]
  omega
theorem model43_use [Stable Φ] {op b : Int} [hF : Has Φ (RkF q st)] [hL : Has Φ (fun M w => Sl M w p L)] (hq : RkQ q st) (hI : SkI st) {n : Nat} (hs : SkS st n) (hn : n ≤ 400000) (hlen : L.length ≤ 400000) (c : Ctx W w ((RkO q st ++ R) ++ G) Φ) {K : Int → List Own → PW → Prop}
    (hk : ∀ q' : KP, q'.sb = q.sb → RkQ q' (opK (andZ op 7) st b L).2 → Stable (fun M w => Φ M w ∧ RkF q' (opK (andZ op 7) st b L).2 M w) → K (opK (andZ op 7) st b L).1 (RkO q' (opK (andZ op 7) st b L).2 ++ R) (fun M w => Φ M w ∧ RkF q' (opK (andZ op 7) st b L).2 M w)) :
    Calls Tryz.prog F.erratalaw43_model #[snk q, .agg #[.int .i64 op, .int .i64 b, .slice p L.length cap]] w fun e w' => ∃ n, e = .returned (.int .i64 n) ∧ ∃ R' Φ', Stable Φ' ∧ Ctx W w' (R' ++ G) Φ' ∧ K n R' Φ' := by
  refine (Berratalaw43_model_run q.sb 0 op b p L.length cap (R := (RkO q st ++ R) ++ G) (J := fun v w' => ∃ n, v = .int .i64 n ∧ ∃ R' Φ', Stable Φ' ∧ Ctx W w' (R' ++ G) Φ' ∧ K n R' Φ') c ?_).mono fun e w' ⟨v, he, n, hv, rest⟩ => ⟨n, by rw [he, hv], rest⟩
  clear c
  refine fun _ => ⟨andZ op 7, fun w => and_run op 7 w, ?_⟩
  obtain ⟨hk0, hk7⟩ := andZ_7 op
  obtain ⟨k, hkk⟩ : ∃ k, andZ op 7 = k := ⟨_, rfl⟩
  rw [hkk] at hk hk0 hk7 ⊢
  have tail : ∀ {m : Int} {st' : SkD} (q' : KP), opK k st b L = (m, st') → q'.sb = q.sb → RkQ q' st' → ∀ {w : World} {G2 : List Own}, Ctx W w ((RkO q' st' ++ (R ++ G)) ++ G2) (fun M w => Φ M w ∧ RkF q' st' M w) → ∃ n, Value.int .i64 m = .int .i64 n ∧ ∃ R' Φ', Stable Φ' ∧ Ctx W w (R' ++ G) Φ' ∧ K n R' Φ' := fun {m st'} q' h hsb hq' {w G2} cx => by
    rw [h] at hk
    exact ⟨m, rfl, RkO q' st' ++ R, _, inferInstance, (cx.left).re (by simp), hk q' hsb hq' inferInstance⟩
  have cP : opK k st b L = prepK st b L → ∀ {w : World} {G2 : List Own}, Ctx W w (((RkO q st ++ R) ++ G) ++ G2) Φ → _ := fun h {w G2} cx => Prepare43_use (R := R ++ G) (G := G2) (b := b) (L := L) (cap := cap) (p := p) hq hI hs hn hlen (cx.re (by simp)) (K := fun m R' Φ' => ∀ (w : World) (G2 : List Own), Ctx W w (R' ++ G2) Φ' → ∃ n, Value.int .i64 m = .int .i64 n ∧ ∃ R' Φ', Stable Φ' ∧ Ctx W w (R' ++ G) Φ' ∧ K n R' Φ') fun q' hsb hq' _ => fun w G2 cx => tail q' h hsb hq' cx
  have cC : opK k st b L = commK st b → ∀ {w : World} {G2 : List Own}, Ctx W w (((RkO q st ++ R) ++ G) ++ G2) Φ → _ := fun h {w G2} cx => Commit43_use (R := R ++ G) (G := G2) (b := b) hq hI hs hn (cx.re (by simp)) (K := fun m R' Φ' => ∀ (w : World) (G2 : List Own), Ctx W w (R' ++ G2) Φ' → ∃ n, Value.int .i64 m = .int .i64 n ∧ ∃ R' Φ', Stable Φ' ∧ Ctx W w (R' ++ G) Φ' ∧ K n R' Φ') fun q' hsb hq' _ => fun w G2 cx => tail q' h hsb hq' cx
  have cA : opK k st b L = abortK st b → ∀ {w : World} {G2 : List Own}, Ctx W w (((RkO q st ++ R) ++ G) ++ G2) Φ → _ := fun h {w G2} cx => Abort43_use (R := R ++ G) (G := G2) (b := b) hq hI hs hn (cx.re (by simp)) (K := fun m R' Φ' => ∀ (w : World) (G2 : List Own), Ctx W w (R' ++ G2) Φ' → ∃ n, Value.int .i64 m = .int .i64 n ∧ ∃ R' Φ', Stable Φ' ∧ Ctx W w (R' ++ G) Φ' ∧ K n R' Φ') fun q' hsb hq' _ => fun w G2 cx => tail q' h hsb hq' cx
  have cD : opK k st b L = delivK st b L → ∀ {w : World} {G2 : List Own}, Ctx W w (((RkO q st ++ R) ++ G) ++ G2) Φ → _ := fun h {w G2} cx => Deliver43_use (R := R ++ G) (G := G2) (b := b) (L := L) (cap := cap) (p := p) hq hI hs hn hlen (cx.re (by simp)) (K := fun m R' Φ' => ∀ (w : World) (G2 : List Own), Ctx W w (R' ++ G2) Φ' → ∃ n, Value.int .i64 m = .int .i64 n ∧ ∃ R' Φ', Stable Φ' ∧ Ctx W w (R' ++ G) Φ' ∧ K n R' Φ') fun q' hsb hq' _ => fun w G2 cx => tail q' h hsb hq' cx
  have cS : opK k st b L = (0, st) → ∀ {w : World} {G2 : List Own}, Ctx W w (((RkO q st ++ R) ++ G) ++ G2) Φ → ∃ n, Value.int .i64 0 = .int .i64 n ∧ ∃ R' Φ', Stable Φ' ∧ Ctx W w (R' ++ G) Φ' ∧ K n R' Φ' := fun h {w G2} cx => tail (G2 := G2) q h rfl hq (Ctx.weak (cx.re (by simp)) fun M w h => ⟨h, hF.go M w h⟩)
  have e0 : opK k st b L = if k = 0 then prepK st b L else if k = 1 then prepK st b L else if k = 2 then commK st b else if k = 3 then abortK st b else if k = 6 then (0, st) else if k = 7 then (0, st) else delivK st b L := rfl
  refine Br.intro (fun h0 => ?_) (fun h0 => ?_)
  · refine Br.intro (fun _ => fun w G2 cx => cP (by rw [e0, if_pos (of_decide_eq_true h0)]) cx) (fun h => ?_)
    rw [h0] at h; cases h
  rw [if_neg (of_decide_eq_false h0)] at e0
  refine Br.intro (fun h => fun w G2 cx => cP (by rw [e0, if_pos (of_decide_eq_true h)]) cx) (fun h1 => ?_)
  rw [if_neg (of_decide_eq_false h1)] at e0
  refine Br.intro (fun h => fun w G2 cx => cC (by rw [e0, if_pos (of_decide_eq_true h)]) cx) (fun h2 => ?_)
  rw [if_neg (of_decide_eq_false h2)] at e0
  refine Br.intro (fun h => fun w G2 cx => cA (by rw [e0, if_pos (of_decide_eq_true h)]) cx) (fun h3 => ?_)
  rw [if_neg (of_decide_eq_false h3)] at e0
  refine Br.intro (fun h4 => ?_) (fun h4 => ?_)
  · refine Br.intro (fun _ => fun w G2 cx => cD (by rw [e0, if_neg (by have := of_decide_eq_true h4; omega), if_neg (by have := of_decide_eq_true h4; omega)]) cx) (fun h => ?_)
    rw [h4] at h; cases h
  refine Br.intro (fun h5 => fun w G2 cx => cD (by rw [e0, if_neg (by have := of_decide_eq_true h5; omega), if_neg (by have := of_decide_eq_true h5; omega)]) cx) (fun h5 => fun w G2 cx => cS ?_ cx)
  have a0 := of_decide_eq_false h0
  have a1 := of_decide_eq_false h1
  have a2 := of_decide_eq_false h2
  have a3 := of_decide_eq_false h3
  have a4 := of_decide_eq_false h4
  have a5 := of_decide_eq_false h5
  rw [e0]
  split
  · rfl
  · rw [if_pos (by omega)]
end
end Go.Proofs.YtemhapmbcbbljaaGreatDoor
end

section
namespace Go.Proofs.YtemhapmbcbbljaaGreatDoor
open Go.Vc
theorem bs_app (a b : List UInt8) : bs a ++ bs b = bs (a ++ b) := by
  apply ByteArray.ext
  apply Array.toList_inj.1
  simp [bs, ByteArray.data_append]
section
variable {Φ : PW} {q : KP} {st : SkD} {W w : World} {R S G : List Own} {p : Option Addr} {cap : Nat} {L : List LineD} {cs : List Value}
set_option maxHeartbeats 1000000 in
theorem Nums01_q [Stable Φ] {Q : List Own} {l : List Int} (src : SrcZ Q Φ p l) (hl : l.length ≤ 10000000) (hi : ∀ x ∈ l, I64 x) : GivesQ Q Φ Tryz.prog F.errataref01_Nums #[.slice p l.length cap] (.string ⟨(numsL l).toArray⟩) := by
  have hg := digits_g l.length (by omega)
  have hi' : Lib.itoa (l.length : Int) = Lib.decDigits l.length := by unfold Lib.itoa; rw [if_neg (by omega)]; rfl
  have e : (0 : Int) - l.length = -((l.length : Nat) : Int) := by omega
  rw [← e, ← hi'] at hg
  have hn := numB_size (n := (l.length : Int)) (by unfold I64; omega)
  refine gives_q (Berrataref01_Nums_run p l.length cap) fun W R => ⟨by unfold I64; omega, fun w G cx => (Gives.in hg).toS cx ⟨?_, ?_⟩⟩
  · show (numB (l.length : Int)).size + 1 ≤ 9223372036854775807; omega
  clear cx
  obtain ⟨pre, hpre⟩ : ∃ pre, (numB (l.length : Int)).data.toList = pre := ⟨_, rfl⟩
  have hpl : pre.length ≤ 20 := by rw [← hpre, list_size]; omega
  refine exI_mk (fun s iI R' Φ' k => ∃ i : Nat, iI = i ∧ i ≤ l.length ∧ s = bs (pre ++ 91 :: intsL (l.take i)) ∧ R' = Q ++ R ∧ Φ' = Φ ∧ k = l.length - i) ⟨⟨_, _, _, inferInstance, fun w G cx => cx, 0, rfl, Nat.zero_le _, ?_, rfl, rfl, rfl⟩, ?_⟩
  · rw [← hpre]
    exact (bs_app (numB (l.length : Int)).data.toList [91]).trans (by rw [List.take_zero]; rfl)
  rintro s iI R1 Φ1 k _ ⟨i, rfl, hi2, rfl, rfl, rfl, rfl⟩
  have hlen := intsL_len (l := l.take i) fun x hx => hi x (List.mem_of_mem_take hx)
  rw [List.length_take] at hlen
  have hsz : (bs (pre ++ 91 :: intsL (l.take i))).size = pre.length + ((intsL (l.take i)).length + 1) := by rw [bs_size, List.length_append, List.length_cons]
  refine Br.intro (fun hlt => ?_) (fun hge => ⟨?_, fun w G cx => ⟨?_, cx.left⟩⟩)
  · have hlt : i < l.length := by have := of_decide_eq_true hlt; omega
    obtain ⟨b, o, hp⟩ := src.ptr (by omega)
    have hx := intB_size (hi l[i] (List.getElem_mem hlt))
    refine ⟨by omega, ptrK_intro b o hp fun w G cx => ⟨l[i], by rw [Int.toNat_natCast]; exact src.rd hp (cx.re (List.append_assoc _ _ _)) i hlt, fun w G cx => (Gives.in (Int01_g l[i] (hi l[i] (List.getElem_mem hlt)))).toS cx ⟨?_, by unfold I64; omega, _, Φ1, l.length - (i + 1), inferInstance, fun w G cx => cx, ⟨i + 1, by omega, hlt, ?_, rfl, rfl, rfl⟩, by omega⟩⟩⟩
    · show (bs (pre ++ 91 :: intsL (l.take i))).size + (intB l[i]).size ≤ 9223372036854775807
      rw [hsz]; omega
    · rw [List.take_succ_eq_append_getElem hlt, intsL_app, intsL_one]
      exact (bs_app _ (intB l[i]).data.toList).trans (by rw [List.append_assoc, List.cons_append])
  · show (bs (pre ++ 91 :: intsL (l.take i))).size + 1 ≤ 9223372036854775807
    rw [hsz]; omega
  · have hge : i = l.length := by have := of_decide_eq_false hge; omega
    rw [hge, List.take_length]
    have h2 : bs (pre ++ 91 :: intsL l) ++ bs [93] = bs (numsL l) := by
      rw [bs_app, List.append_assoc, List.cons_append]
      unfold numsL
      rw [hpre]
    exact congrArg Value.string h2
set_option maxHeartbeats 2000000 in
theorem Lines43_src [Stable Φ] (src : Src [] Φ p L cs) (hc : Rows7 cs L) (hl : L.length ≤ 1000000) (hw : ∀ x ∈ L, LineW x) : GivesIn Φ Tryz.prog F.errataref43_lines #[.slice p L.length cap] (.string ⟨(linesS L).toArray⟩) := by
  have hnat := natB_size (n := (L.length : Int)) (by unfold I64; omega)
  refine gives_in (Berrataref43_lines_run p L.length cap) fun W R => fun w G cx => (Gives.in (Num01_g (L.length : Int) (by unfold I64; omega))).toS cx ?_
  clear cx
  obtain ⟨pre, hpre⟩ : ∃ pre, (natB (L.length : Int)).data.toList = pre := ⟨_, rfl⟩
  have hpl : pre.length ≤ 21 := by rw [← hpre, list_size]; omega
  refine exI_mk (fun s iI R' Φ' k => ∃ i : Nat, iI = i ∧ i ≤ L.length ∧ s = bs (pre ++ linesL (L.take i)) ∧ R' = R ∧ Φ' = Φ ∧ k = L.length - i) ⟨⟨_, _, _, inferInstance, fun w G cx => cx, 0, rfl, Nat.zero_le _, ?_, rfl, rfl, rfl⟩, ?_⟩
  · rw [← hpre, List.take_zero, show linesL [] = [] from rfl, List.append_nil]; rfl
  rintro s iI R1 Φ1 k _ ⟨i, rfl, hi2, rfl, rfl, rfl, rfl⟩
  have hlen := linesL_len (l := L.take i) fun x hx => hw x (List.mem_of_mem_take hx)
  rw [List.length_take] at hlen
  have hsz : (bs (pre ++ linesL (L.take i))).size = pre.length + (linesL (L.take i)).length := by rw [bs_size, List.length_append]
  refine Br.intro (fun hlt => ?_) (fun hge => fun w G cx => ⟨?_, cx.left⟩)
  · have hlt : i < L.length := by have := of_decide_eq_true hlt; omega
    obtain ⟨b, o, hp⟩ := src.ptr (by omega)
    obtain ⟨r, rc, he, h1, h2, h3⟩ := hc i hlt
    have hlw := hw L[i] (List.getElem_mem _)
    have hsl : ∀ M w, Φ1 M w → Sl M w r L[i].row := fun M w h => src_sl src hlt he h
    have hrd : ∀ {w : World} {G : List Own}, Ctx W w (R1 ++ G) Φ1 → RowAt w b (o + ((i : Nat) : Int).toNat * 7) (L[i].cells r rc) := fun {w G} cx => by
      rw [Int.toNat_natCast]
      exact src_at (S := []) (G := R1 ++ G) src hp cx he
    have hstep : linesL (L.take (i + 1)) = linesL (L.take i) ++ (lineS L[i]).data.toList := by rw [List.take_succ_eq_append_getElem hlt, linesL_app, linesL_one]
    obtain ⟨x, hx⟩ : ∃ x, L[i] = x := ⟨_, rfl⟩
    rw [hx] at hlw hsl hrd hstep h1
    obtain ⟨X, hX⟩ : ∃ X, bs (pre ++ linesL (L.take i)) = X := ⟨_, rfl⟩
    rw [hX] at hsz ⊢
    have hrs := rowB_small hlw.row hlw.val
    have s0 := intB_size hlw.inn.batch
    have s1 := intB_size hlw.inn.time
    have s2 := intB_size hlw.inn.n
    have s3 := intB_size hlw.inn.cause
    have s4 := intB_size hlw.inn.why
    have s5 := textB_size (s := rowB x.row) (by omega)
    refine ⟨by omega, ptrK_intro b o hp fun w G cx => ⟨x.no, x.batch, x.time, r, x.row.length, rc, x.n, x.cause, x.why, hrd cx, fun _ => ⟨R1, Φ1, inferInstance, fun w G cx => cx, fun w G cx => (Gives.in (Int01_g x.batch hlw.inn.batch)).toS cx ⟨fun w G cx => cx, ?_, fun w G cx => (Gives.in (Int01_g x.time hlw.inn.time)).toS cx ⟨fun w G cx => cx, ?_, fun w G cx => (RowBytes03_in r rc x.row hsl (by have := hlw.row; omega) (fun v hv => by have := (hlw.val v hv).2; omega)).toS cx ⟨fun w G cx => cx, fun w G cx => (Gives.in (Text01_g (rowB x.row) (by omega))).toS cx ⟨fun w G cx => cx, ?_, fun w G cx => (Gives.in (Int01_g x.n hlw.inn.n)).toS cx ⟨fun w G cx => cx, ?_, fun w G cx => (Gives.in (Int01_g x.cause hlw.inn.cause)).toS cx ⟨fun w G cx => cx, ?_, fun w G cx => (Gives.in (Int01_g x.why hlw.inn.why)).toS cx ⟨fun w G cx => cx, ?_, by unfold I64; omega, _, Φ1, L.length - (i + 1), inferInstance, fun w G cx => cx, ⟨i + 1, by omega, hlt, ?_, rfl, rfl, rfl⟩, by omega⟩⟩⟩⟩⟩⟩⟩⟩⟩⟩
    · show X.size + (intB x.batch).size ≤ 9223372036854775807
      omega
    · show (X ++ intB x.batch).size + (intB x.time).size ≤ 9223372036854775807
      rw [size_app]; omega
    · show (X ++ intB x.batch ++ intB x.time).size + (textB (rowB x.row)).size ≤ 9223372036854775807
      rw [size_app, size_app]; omega
    · show (X ++ intB x.batch ++ intB x.time ++ textB (rowB x.row)).size + (intB x.n).size ≤ 9223372036854775807
      rw [size_app, size_app, size_app]; omega
    · show (X ++ intB x.batch ++ intB x.time ++ textB (rowB x.row) ++ intB x.n).size + (intB x.cause).size ≤ 9223372036854775807
      rw [size_app, size_app, size_app, size_app]; omega
    · show (X ++ intB x.batch ++ intB x.time ++ textB (rowB x.row) ++ intB x.n ++ intB x.cause).size + (intB x.why).size ≤ 9223372036854775807
      rw [size_app, size_app, size_app, size_app, size_app]; omega
    · rw [hstep, ← List.append_assoc, ← bs_app, hX]
      show _ = X ++ lineS x
      unfold lineS
      simp only [ByteArray.append_assoc]
  · have hge : i = L.length := by have := of_decide_eq_false hge; omega
    rw [hge, List.take_length, ← hpre]
    rfl
theorem Lines43_in [Stable Φ] {L : List LineD} [hΦ : Has Φ (fun M w => Sl M w p L)] (hl : L.length ≤ 1000000) (hw : ∀ x ∈ L, LineW x) : GivesIn Φ Tryz.prog F.errataref43_lines #[.slice p L.length cap] (.string ⟨(linesS L).toArray⟩) :=
  ⟨fun W w S c => by
    have hth := (hΦ.go _ _ c.phi).there
    obtain ⟨cs, c1⟩ := srcOf c (hΦ.go _ _ c.phi)
    exact GivesIn.use (Lines43_src (Φ := fun M w => Φ M w ∧ SrcF p L cs M w) (src_fact (Φ := fun M w => Φ M w ∧ SrcF p L cs M w) hth (fun M w h => h.2)) (rows7 c1.phi.2.2) hl hw) c1 fun w' c => ⟨rfl, c.fst⟩⟩
set_option maxHeartbeats 2000000 in
theorem Bytes43_q [Stable Φ] [hF : Has Φ (RkF q st)] (hq : RkQ q st) (hW : SkW st) {n : Nat} (hs : SkS st n) (hn : n ≤ 400000) : GivesQ (RkO q st) Φ Tryz.prog F.errataref43_Sink_Bytes #[snk q] (.string (skB st)) := by
  have hsz := skB_size hW hs hn
  have h1 := hs.lines
  have h2 := hs.aside
  have h3 := hs.bats
  have h4 := hs.key
  have e : skB st = intB st.kind ++ ⟨(numsL st.key).toArray⟩ ++ ⟨(numsL st.bats).toArray⟩ ++ ⟨(linesS st.lines).toArray⟩ ++ intB st.prep ++ ⟨(linesS st.aside).toArray⟩ := rfl
  rw [e, size_app, size_app, size_app, size_app, size_app] at hsz
  have hK : ∀ M w, Φ M w → Sl M w q.kp st.key := fun M w h => (hF.go M w h).2.1
  have hA : Has Φ (fun M w => Sl M w q.ap st.aside) := ⟨fun M w h => (hF.go M w h).2.2⟩
  have hL : Has Φ (fun M w => Sl M w q.lp st.lines) := ⟨fun M w h => (hF.go M w h).1⟩
  refine gives_q (Berrataref43_Sink_Bytes_run q.sb 0) fun W R => ?_
  have hth : ∀ {w : World} {G : List Own}, Ctx W w ((RkO q st ++ R) ++ G) Φ → There q.kp st.key.length := fun cx => (hK _ _ cx.phi).there
  refine ⟨RkO q st ++ R, Φ, inferInstance, fun w G cx => cx, st.kind, fun w G cx => ⟨_, rk_cell (i := 0) cx rfl, rfl⟩, q.kp, st.key.length, q.kc, fun w G cx => ⟨_, _, _, rk_cell (i := 1) cx rfl, rfl⟩, q.bp, st.bats.length, q.bc, fun w G cx => ⟨_, _, _, rk_cell (i := 2) cx rfl, rfl⟩, q.lp, st.lines.length, q.lc, fun w G cx => ⟨_, _, _, rk_cell (i := 3) cx rfl, rfl⟩, st.prep, fun w G cx => ⟨_, rk_cell (i := 4) cx rfl, rfl⟩, q.ap, st.aside.length, q.ac, fun w G cx => ⟨_, _, _, rk_cell (i := 5) cx rfl, rfl⟩, fun w G cx => ?_⟩
  have hth := hth cx
  refine (Gives.in (Int01_g st.kind hW.kind)).toS cx ⟨fun w G cx => cx, fun w G cx => (GivesQ.in (Nums01_q (l := st.key) (srcz_fact hth hK) (by omega) hW.key)).toS cx ⟨fun w G cx => cx, ?_, fun w G cx => (Nums01_q (l := st.bats) (srcz_rk hq) (by omega) hW.bats).toS cx ⟨fun w G cx => cx, ?_, fun w G cx => (Lines43_in (L := st.lines) (by omega) hW.lines).toS cx ⟨fun w G cx => cx, ?_, fun w G cx => (Gives.in (Int01_g st.prep hW.prep)).toS cx ⟨fun w G cx => cx, ?_, fun w G cx => (Lines43_in (L := st.aside) (by omega) hW.aside).toS cx ⟨fun w G cx => cx, ?_, fun w G cx => ⟨rfl, cx.left⟩⟩⟩⟩⟩⟩⟩
  · show (intB st.kind).size + (ByteArray.mk (numsL st.key).toArray).size ≤ 9223372036854775807
    omega
  · show (intB st.kind ++ ⟨(numsL st.key).toArray⟩).size + (ByteArray.mk (numsL st.bats).toArray).size ≤ 9223372036854775807
    rw [size_app]; omega
  · show (intB st.kind ++ ⟨(numsL st.key).toArray⟩ ++ ⟨(numsL st.bats).toArray⟩).size + (ByteArray.mk (linesS st.lines).toArray).size ≤ 9223372036854775807
    rw [size_app, size_app]; omega
  · show (intB st.kind ++ ⟨(numsL st.key).toArray⟩ ++ ⟨(numsL st.bats).toArray⟩ ++ ⟨(linesS st.lines).toArray⟩).size + (intB st.prep).size ≤ 9223372036854775807
    rw [size_app, size_app, size_app]; omega
  · show (intB st.kind ++ ⟨(numsL st.key).toArray⟩ ++ ⟨(numsL st.bats).toArray⟩ ++ ⟨(linesS st.lines).toArray⟩ ++ intB st.prep).size + (ByteArray.mk (linesS st.aside).toArray).size ≤ 9223372036854775807
    rw [size_app, size_app, size_app, size_app]; omega
end
end Go.Proofs.YtemhapmbcbbljaaGreatDoor
end

