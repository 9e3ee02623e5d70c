/-
  For every input erratalaw41.LedgerHistory returns true, does not panic, comes to an end, and leaves what came in as it was; the variables that its row lists are as the program's text lays them.
  Conditions: none beyond the given statement's own (LedgerHistoryCardSaid).
-/
import Derived.Test.YtbkpfhhhbhaecaaDoorHI9
import Derived.Test.YtbkpfhhhbhaecaaDoorHI6
import Derived.Test.YtbkpfhhhbhaecaaDoorHI8
import Derived.Test.YtbkpfhhhbhaecaaDoorCards
import Derived.MakeChecks
import Derived.Stop.LaidErr
import Derived.Lib.LaidTab
import Derived.Test.YtbkpfhhhbhaecaaDoorTie
import Derived.SevenTiedAt
import Derived.LaidMore
import Derived.ChangeMaps5
import Derived.Test.YtbkpfhhhbhaecaaDoorRows

/-
  Append of lines that facts tell of; the examples of the law.
-/
section
set_option linter.unusedVariables false
set_option linter.unusedSimpArgs false
namespace Go.Proofs.YtbkpfhhhbhaecaaDoor
open Go.Vc


theorem app_s {st : LedD} {no mark : Int} {L : List LineD} (hs : LedS st) (hr : ∀ x ∈ L, x.row.length ≤ 13) (ht : ∀ x ∈ L, ∀ v ∈ x.row, v.text.size ≤ 300) (h1 : (st.lines ++ L).length ≤ 100000) (h2 : st.bats.length + 1 ≤ 100000) : LedS (appP st no mark L) where
  lines := h1
  bats := by show (st.bats ++ [_]).length ≤ _; rw [List.length_append]; exact h2
  row := fun x hx => (List.mem_append.1 hx).elim (hs.row x) (hr x)
  text := fun x hx => (List.mem_append.1 hx).elim (hs.text x) (ht x)
  stop := fun b hb => by
    show b.stop ≤ (st.lines ++ L).length
    rcases List.mem_append.1 hb with h | h
    · have := hs.stop b h
      rw [List.length_append]; omega
    · rw [List.mem_singleton.1 h]; exact Nat.le_refl _
theorem app_bats {st : LedD} {no mark : Int} {L : List LineD} (hs : LedS st) (hb : BatsOk st) (h1 : I64 no) (h2 : I64 mark) : BatsOk (appP st no mark L) := by
  refine ⟨fun i hi => ?_, fun b hm => ?_⟩
  · have hi : i < (st.bats ++ [(⟨no, mark, (st.lines ++ L).length⟩ : BatD)]).length := hi
    show begP (st.bats ++ [(⟨no, mark, (st.lines ++ L).length⟩ : BatD)]) i ≤ (st.bats ++ [(⟨no, mark, (st.lines ++ L).length⟩ : BatD)])[i].stop
    rw [List.length_append, List.length_singleton] at hi
    have e : begP (st.bats ++ [(⟨no, mark, (st.lines ++ L).length⟩ : BatD)]) i = begP st.bats i := by
      unfold begP
      by_cases h0 : i = 0
      · rw [if_pos h0, if_pos h0]
      · rw [if_neg h0, if_neg h0, List.getElem?_append_left (by omega)]
    rw [e]
    by_cases hlt : i < st.bats.length
    · rw [List.getElem_append_left hlt]
      exact hb.1 i hlt
    · have hie : i = st.bats.length := by omega
      subst hie
      rw [List.getElem_append_right (Nat.le_refl _)]
      simp only [Nat.sub_self, List.getElem_cons_zero]
      unfold begP
      split
      · exact Nat.zero_le _
      · rw [List.getElem?_eq_getElem (by omega)]
        have := hs.stop _ (List.getElem_mem (l := st.bats) (n := st.bats.length - 1) (by omega))
        rw [List.length_append]
        show st.bats[st.bats.length - 1].stop ≤ _
        omega
  · rcases List.mem_append.1 hm with h | h
    · exact hb.2 b h
    · rw [List.mem_singleton.1 h]; exact ⟨h1, h2⟩

section
variable {Φ : PW} {q : LP} {st : LedD} {W w : World} {R S G : List Own} {p r : Option Addr} {cap cap2 : Nat}

theorem EqualH [Stable Φ] {a b : List DeltaD} [hΦ : Has Φ (fun M w => Sl M w p a)] [hΨ : Has Φ (fun M w => Sl M w r b)] (hlen : a.length ≤ 1000000) :
    GivesIn Φ Tryd.prog F.errataref28_Equal #[.slice p a.length cap, .slice r b.length cap2] (.bool (decide (a = b))) := Equal_in p cap a r cap2 b hΦ.go hΨ.go (by omega)

theorem Append_to [Stable Φ] {no mark : Int} {L : List LineD} [hT : Has Φ TabI] [hF : Has Φ (LF q st)] [hL : Has Φ (fun M w => Sl M w p L)] (hq : LedQ q st) (hs : LedS st) (hk : CntOk st) (hlen : L.length ≤ 100000) (hrow : ∀ x ∈ L, x.row.length ≤ 1000000) (htx : ∀ x ∈ L, ∀ v ∈ x.row, v.text.size ≤ 10000)
    (c : Ctx W w ((LedO q st ++ R) ++ G) Φ) {K : Int → List Own → PW → Prop}
    (h0 : checkP st no mark L ≠ 0 → K (checkP st no mark L) (LedO q st ++ R) Φ)
    (h1 : ∀ q', checkP st no mark L = 0 → RowsFit L → q'.lb = q.lb → LedQ q' (appP st no mark L) → Stable (fun M w => Φ M w ∧ LF q' (appP st no mark L) M w) → K 0 (LedO q' (appP st no mark L) ++ R) (fun M w => Φ M w ∧ LF q' (appP st no mark L) M w)) :
    Calls Tryd.prog F.ledger_Ledger_Append #[led q, .int .i64 no, .int .i64 mark, .slice p L.length cap] w fun e w' => ∃ n, e = .returned (.int .i64 n) ∧ ∃ R' Φ', Stable Φ' ∧ Ctx W w' (R' ++ G) Φ' ∧ K n R' Φ' := by
  have hth := (hL.go _ _ c.phi).there
  obtain ⟨cs, c1⟩ := srcOf c (hL.go _ _ c.phi)
  refine (Append_use (Φ := fun M w => Φ M w ∧ SrcF p L cs M w) hq hs hk (src_fact hth fun M w h => h.2) hlen hrow htx c1 (K := fun n R' Φ' => ∃ Φ2, Stable Φ2 ∧ (∀ M w, Φ' M w → Φ2 M w) ∧ K n R' Φ2)
    (fun hz => ⟨Φ, inferInstance, fun M w h => h.1, h0 hz⟩) (fun q' hz hf hlb hq' _ => ⟨_, inferInstance, fun M w h => ⟨h.1.1, h.2⟩, h1 q' hz hf hlb hq' inferInstance⟩)).mono fun e w' ⟨n, he, R', Φ', hst, cx, Φ2, hst2, hw, hK⟩ => ⟨n, he, R', Φ2, hst2, cx.weak hw, hK⟩
end

/-! ### small -/
abbrev v7 : List ValD := [⟨0, 7, ByteArray.mk #[]⟩]
abbrev v8 : List ValD := [⟨0, 8, ByteArray.mk #[]⟩]
abbrev sL1 : List LineD := [⟨1, 1, 5, v7, 2, 0, 0⟩]
abbrev sL2 : List LineD := [⟨2, 3, 5, v7, -1, 1, 0⟩, ⟨3, 3, 12, v8, 1, 0, 0⟩]
abbrev sL3 : List LineD := [⟨4, 4, 5, v7, -2, 1, 0⟩]
abbrev sT1 : LedD := appP ⟨[], []⟩ 1 10 sL1
abbrev sT2 : LedD := appP sT1 3 20 sL2
theorem s_c1 : checkP ⟨[], []⟩ 1 10 sL1 = 0 := by decide +kernel
theorem s_c2 : checkP sT1 3 20 sL2 = 0 := by decide +kernel
theorem s_c3 : checkP sT2 4 20 sL3 = 7 := by decide +kernel
theorem s_cnt : cntL sT2.lines (5, rowB v7) = 1 := by decide +kernel
theorem s_net : netP sT2.lines = [⟨5, v7, 1⟩, ⟨12, v8, 1⟩] := by decide +kernel
theorem s_at : netP (sT2.lines.take (endP sT2.bats 1 0)) = [⟨5, v7, 2⟩] := by decide +kernel
theorem v7_rep {M : List Nat} {w : World} : Gv.rep M w [.int .i64 0, .int .i64 7, .string (ByteArray.mk #[])] (⟨0, 7, ByteArray.mk #[]⟩ : ValD) := val_rep (v := ⟨0, 7, ByteArray.mk #[]⟩) (by unfold I64; decide)
theorem v8_rep {M : List Nat} {w : World} : Gv.rep M w [.int .i64 0, .int .i64 8, .string (ByteArray.mk #[])] (⟨0, 8, ByteArray.mk #[]⟩ : ValD) := val_rep (v := ⟨0, 8, ByteArray.mk #[]⟩) (by unfold I64; decide)
end Go.Proofs.YtbkpfhhhbhaecaaDoor
end

/-
  The examples of the law of ledgers, walked.
-/
section
set_option linter.unusedVariables false
set_option linter.unusedSimpArgs false
namespace Go.Proofs.YtbkpfhhhbhaecaaDoor
open Go.Vc


theorem Ctx.rev3 {W w : World} {S : List Own} {Φ : PW} [Stable Φ] {a b x : Own} (c : Ctx W w (a :: b :: x :: S) Φ) : Ctx W w (x :: b :: a :: S) Φ := c.perm (List.Perm.append_right S (List.reverse_perm [x, b, a]))
theorem line_s {M : List Nat} {w : World} {no b t n c : Int} {r : List ValD} {k : Nat} (hr : r.length = 1) (h : I64 no ∧ I64 b ∧ I64 t ∧ I64 n ∧ I64 c) (hs : Sl M w (some ⟨k, 0, none⟩) r) :
    Gv.rep M w [.int .i64 no, .int .i64 b, .int .i64 t, .slice (some ⟨k, 0, none⟩) 1 1, .int .i64 n, .int .i64 c, .int .i64 0] (⟨no, b, t, r, n, c, 0⟩ : LineD) := by
  have := rep_line (x := ⟨no, b, t, r, n, c, 0⟩) (p := some ⟨k, 0, none⟩) (c := 1) (M := M) (w := w) (by show r.length ≤ 1; omega) (by decide) ⟨h.1, h.2.1, h.2.2.1, h.2.2.2.1, h.2.2.2.2, by show I64 0; unfold I64; omega⟩ hs
  unfold LineD.cells at this
  simp only [hr] at this
  exact this
theorem delta_s {M : List Nat} {w : World} {t n : Int} {r : List ValD} {k : Nat} (hr : r.length = 1) (h : I64 t ∧ I64 n) (hs : Sl M w (some ⟨k, 0, none⟩) r) :
    Gv.rep M w [.int .i64 t, .slice (some ⟨k, 0, none⟩) 1 1, .int .i64 n] (⟨t, r, n⟩ : DeltaD) := by
  have := rep_delta (x := ⟨t, r, n⟩) (p := some ⟨k, 0, none⟩) (c := 1) (M := M) (w := w) (by show r.length ≤ 1; omega) (by decide) h.1 h.2 hs
  unfold DeltaD.cells at this
  simp only [hr] at this
  exact this
theorem s_s1 : LedS sT1 := ⟨by decide, by decide, by decide, by decide, by decide⟩
theorem s_s2 : LedS sT2 := ⟨by decide, by decide, by decide, by decide, by decide⟩
theorem s_cnt0 : CntOk ⟨[], []⟩ := fun k => ⟨Int.le_refl 0, by show (0 : Int) ≤ _; omega⟩

set_option maxHeartbeats 4000000 in
theorem small41_in {Φ : PW} [Stable Φ] [hT : Has Φ TabI] : GivesIn Φ Tryd.prog F.erratalaw41_small #[] (.bool true) := by
  refine gives_in (Berratalaw41_small_run) fun W R => ?_
  refine fun w G cx => New_to cx fun q hq st0 => Br.intro (fun h => by cases h) (fun _ => fun k9 k10 k11 w G cx => ?_)
  have cx := Ctx.rev3 (S := (LedO q ⟨[], []⟩ ++ R) ++ G) cx
  obtain ⟨ca, ha⟩ := Ctx.freezeBlk (α := ValD) (l := v7) cx (Elems.one v7_rep)
  have ca := ca.add (Ψ := fun M w => Sl M w (some ⟨k9, 0, none⟩) v7) ha
  obtain ⟨cb, hb⟩ := Ctx.freezeBlk (α := ValD) (l := v8) ca (Elems.one v8_rep)
  have cb := cb.add (Ψ := fun M w => Sl M w (some ⟨k10, 0, none⟩) v8) hb
  obtain ⟨cc, hc⟩ := Ctx.freezeBlk (α := LineD) (l := sL1) cb (Elems.one (line_s rfl (by unfold I64; decide) cb.phi.1.2))
  have cc := cc.add (Ψ := fun M w => Sl M w (some ⟨k11, 0, none⟩) sL1) hc
  clear cx ca ha cb hb hc
  refine Append_to (q := q) (st := ⟨[], []⟩) (L := sL1) (no := 1) (mark := 10) hq new_s s_cnt0 (by decide) (by decide) (by decide) cc (fun h => absurd s_c1 h) fun q1 _ hf1 hlb1 hq1 st1 => ?_
  clear cc
  have hc1 : CntOk sT1 := (check_ok s_c1).cnt hf1 s_cnt0
  have hq1 : LedQ q1 sT1 := hq1
  rw [← hlb1]
  refine fun k19 w G cx => ?_
  obtain ⟨cd, hd⟩ := Ctx.freezeBlk (α := LineD) (l := sL2) cx (Elems.two (cs := [.int .i64 2, .int .i64 3, .int .i64 5, .slice (some ⟨k9, 0, none⟩) 1 1, .int .i64 (-1), .int .i64 1, .int .i64 0]) (line_s rfl (by unfold I64; decide) (Ctx.has (Ψ := fun M w => Sl M w (some ⟨k9, 0, none⟩) v7) cx).phi) (line_s rfl (by unfold I64; decide) (Ctx.has (Ψ := fun M w => Sl M w (some ⟨k10, 0, none⟩) v8) cx).phi))
  have cd := cd.add (Ψ := fun M w => Sl M w (some ⟨k19, 0, none⟩) sL2) hd
  clear cx hd
  refine Append_to (q := q1) (st := sT1) (L := sL2) (no := 3) (mark := 20) hq1 s_s1 hc1 (by decide) (by decide) (by decide) cd (fun h => absurd s_c2 h) fun q2 _ hf2 hlb2 hq2 st2 => ?_
  clear cd
  have hc2 : CntOk sT2 := (check_ok s_c2).cnt hf2 hc1
  have hq2 : LedQ q2 sT2 := hq2
  rw [← hlb2]
  refine fun k27 w G cx => ?_
  obtain ⟨ce, he⟩ := Ctx.freezeBlk (α := LineD) (l := sL3) cx (Elems.one (line_s rfl (by unfold I64; decide) (Ctx.has (Ψ := fun M w => Sl M w (some ⟨k9, 0, none⟩) v7) cx).phi))
  have ce := ce.add (Ψ := fun M w => Sl M w (some ⟨k27, 0, none⟩) sL3) he
  clear cx he
  refine Append_to (q := q2) (st := sT2) (L := sL3) (no := 4) (mark := 20) hq2 s_s2 hc2 (by decide) (by decide) (by decide) ce (fun _ => ?_) fun q3 hz => absurd (hz.symm.trans s_c3) (by decide)
  clear ce
  rw [s_c3]
  refine fun w G cx => Causes_to (q := q2) (st := sT2) cx ?_
  clear cx
  refine Br.intro (fun _ => Br.intro (fun _ => Br.intro (fun _ => ?_) (fun h => absurd rfl (of_decide_eq_false h))) (fun h => absurd rfl (of_decide_eq_false h))) (fun h => absurd rfl (of_decide_eq_false h))
  have hcq := fun (Ψ : PW) (s : Stable Ψ) (h1 : Has Ψ TabI) (h2 : Has Ψ (fun M w => Sl M w (some ⟨k9, 0, none⟩) v7)) => Count_q (Φ := Ψ) (q := q2) (st := sT2) (t := 5) (r := v7) (p := some ⟨k9, 0, none⟩) (cap := 1) hq2 (by decide) (by decide)
  rw [s_cnt] at hcq
  refine fun w G cx => (hcq _ inferInstance inferInstance inferInstance).toI cx ?_
  clear cx hcq
  refine Br.intro (fun _ => Br.intro (fun _ => Br.intro (fun _ => Br.intro (fun _ => ?_) (fun h => absurd rfl (of_decide_eq_false h))) (fun h => absurd rfl (of_decide_eq_false h))) (fun h => absurd rfl (of_decide_eq_false h))) (fun h => absurd rfl (of_decide_eq_false h))
  have hnq := fun (Ψ : PW) (s : Stable Ψ) (h1 : Has Ψ (LF q2 sT2)) => Net_q (Φ := Ψ) (q := q2) (st := sT2) hq2 s_s2
  rw [s_net] at hnq
  refine fun w G cx => (hnq _ inferInstance inferInstance).tot cx fun p1 c1 _ _ _ st3 => ?_
  clear cx hnq
  refine fun k60 w G cx => ?_
  obtain ⟨cf, hf⟩ := Ctx.freezeBlk (α := DeltaD) (l := [⟨5, v7, 1⟩, ⟨12, v8, 1⟩]) cx (Elems.two (cs := [.int .i64 5, .slice (some ⟨k9, 0, none⟩) 1 1, .int .i64 1]) (delta_s rfl (by unfold I64; decide) (Ctx.has (Ψ := fun M w => Sl M w (some ⟨k9, 0, none⟩) v7) cx).phi) (delta_s rfl (by unfold I64; decide) (Ctx.has (Ψ := fun M w => Sl M w (some ⟨k10, 0, none⟩) v8) cx).phi))
  have cf := cf.add (Ψ := fun M w => Sl M w (some ⟨k60, 0, none⟩) ([⟨5, v7, 1⟩, ⟨12, v8, 1⟩] : List DeltaD)) hf
  clear cx hf
  refine (EqualH (a := [⟨5, v7, 1⟩, ⟨12, v8, 1⟩]) (b := [⟨5, v7, 1⟩, ⟨12, v8, 1⟩]) (p := p1) (cap := c1) (r := some ⟨k60, 0, none⟩) (cap2 := 2) (by decide)).toB cf ?_
  clear cf
  rw [decide_eq_true rfl]
  refine Br.intro (fun _ => ?_) (fun h => by cases h)
  have haq := fun (Ψ : PW) (s : Stable Ψ) (h1 : Has Ψ (LF q2 sT2)) => At_q (Φ := Ψ) (q := q2) (st := sT2) (no := 1) hq2 s_s2
  rw [s_at] at haq
  refine fun w G cx => (haq _ inferInstance inferInstance).tot cx fun p2 c2 _ _ _ st4 => ?_
  clear cx haq
  refine fun k77 w G cx => ?_
  obtain ⟨cg, hg⟩ := Ctx.freezeBlk (α := DeltaD) (l := [⟨5, v7, 2⟩]) cx (Elems.one (delta_s rfl (by unfold I64; decide) (Ctx.has (Ψ := fun M w => Sl M w (some ⟨k9, 0, none⟩) v7) cx).phi))
  have cg := cg.add (Ψ := fun M w => Sl M w (some ⟨k77, 0, none⟩) ([⟨5, v7, 2⟩] : List DeltaD)) hg
  clear cx hg
  refine (EqualH (a := [⟨5, v7, 2⟩]) (b := [⟨5, v7, 2⟩]) (p := p2) (cap := c2) (r := some ⟨k77, 0, none⟩) (cap2 := 1) (by decide)).toB cg ?_
  clear cg
  rw [decide_eq_true rfl]
  exact fun w G cx => ⟨rfl, Ctx.has (Ctx.right (S := LedO q2 sT2) (cx.re (List.append_assoc _ _ _))).left⟩
end Go.Proofs.YtbkpfhhhbhaecaaDoor
end

/-
  The step 'fitted(l[i], a.Last(), a.Mark(), a.Next())' of the laws of ledgers (printed by fittree.py).
-/
section
set_option linter.unusedVariables false
set_option linter.unusedSimpArgs false
namespace Go.Proofs.YtbkpfhhhbhaecaaDoor
open Go.Vc

def FitTree (lP : Option Addr) (lN : Nat) (n13 : Int) (p4 : Option Addr) (W : World) (R14 : List Own) (I15 : PW) (I19 : Nat → Nat → List Own → PW → Prop) : Prop :=
  ∃ (R20 : List Own), ∃ (Φ21 : PW), Stable Φ21 ∧ (∀ (w22 : World) (R23 : List Own), Ctx W w22 (R14 ++ R23) I15 → Ctx W w22 (R20 ++ R23) Φ21) ∧ (0 ≤ n13 ∧
  n13 < (↑lN : Int)) ∧ ptrK none lP fun (k24 k25 : Nat) => ∃ (n26 : Int), ∃ (n27 : Int), ∃ (p28 : Option Addr), ∃ (k29 : Nat), ∃ (k30 : Nat), ∃ (c31 : Bool),
  (∀ (w32 : World) (R33 : List Own), Ctx W w32 (R20 ++ R33) Φ21 → ∃ (n34 : Int), ∃ (n35 : Int), ∃ (p36 : Option Addr), ∃ (k37 : Nat), ∃ (k38 : Nat), ∃ (c39
  : Bool), RowAt w32 k24 (k25 + n13.toNat * 4) [Value.int IntKind.i64 n34, Value.int IntKind.i64 n35, Value.slice p36 k37 k38, Value.bool c39] ∧ Value.agg
  #[Value.int IntKind.i64 n34, Value.int IntKind.i64 n35, Value.slice p36 k37 k38, Value.bool c39] = Value.agg #[Value.int IntKind.i64 n26, Value.int IntKind.i64
  n27, Value.slice p28 k29 k30, Value.bool c31]) ∧ (∀ (w40 : World) (R41 : List Own), Ctx W w40 (R14 ++ R41) I15 → Calls Tryd.prog F.ledger_Ledger_Last #[Value.pointer
  p4] w40 fun (e42 : Ending) (w43 : World) => ∃ (n44 : Int), e42 = Ending.returned (Value.int IntKind.i64 n44) ∧ ∃ (R45 : List Own), ∃ (Φ46 : PW), Stable
  Φ46 ∧ Ctx W w43 (R45 ++ R41) Φ46 ∧ (∀ (w47 : World) (R48 : List Own), Ctx W w47 (R45 ++ R48) Φ46 → Ctx W w47 (R20 ++ R48) Φ21) ∧ (∀ (w49 : World) (R50
  : List Own), Ctx W w49 (R45 ++ R50) Φ46 → Calls Tryd.prog F.ledger_Ledger_Mark #[Value.pointer p4] w49 fun (e51 : Ending) (w52 : World) => ∃ (n53 : Int),
  e51 = Ending.returned (Value.int IntKind.i64 n53) ∧ ∃ (R54 : List Own), ∃ (Φ55 : PW), Stable Φ55 ∧ Ctx W w52 (R54 ++ R50) Φ55 ∧ (∀ (w56 : World) (R57 :
  List Own), Ctx W w56 (R54 ++ R57) Φ55 → Ctx W w56 (R20 ++ R57) Φ21) ∧ (∀ (w58 : World) (R59 : List Own), Ctx W w58 (R54 ++ R59) Φ55 → Calls Tryd.prog F.ledger_Ledger_Next
  #[Value.pointer p4] w58 fun (e60 : Ending) (w61 : World) => ∃ (n62 : Int), e60 = Ending.returned (Value.int IntKind.i64 n62) ∧ ∃ (R63 : List Own), ∃ (Φ64
  : PW), Stable Φ64 ∧ Ctx W w61 (R63 ++ R59) Φ64 ∧ (∀ (w65 : World) (R66 : List Own), Ctx W w65 (R63 ++ R66) Φ64 → Ctx W w65 (R20 ++ R66) Φ21) ∧ (∀ (w67
  : World) (R68 : List Own), Ctx W w67 (R63 ++ R68) Φ64 → Calls Tryd.prog F.erratalaw41_fitted #[Value.agg #[Value.int IntKind.i64 n26, Value.int IntKind.i64
  n27, Value.slice p28 k29 k30, Value.bool c31], Value.int IntKind.i64 n44, Value.int IntKind.i64 n53, Value.int IntKind.i64 n62] w67 fun (e69 : Ending)
  (w70 : World) => ∃ (n71 : Int), ∃ (n72 : Int), ∃ (p73 : Option Addr), ∃ (k74 : Nat), ∃ (k75 : Nat), ∃ (c76 : Bool), e69 = Ending.returned (Value.agg #[Value.int
  IntKind.i64 n71, Value.int IntKind.i64 n72, Value.slice p73 k74 k75, Value.bool c76]) ∧ ∃ (R77 : List Own), ∃ (Φ78 : PW), Stable Φ78 ∧ Ctx W w70 (R77 ++
  R68) Φ78 ∧ (∀ (w79 : World) (R80 : List Own), Ctx W w79 (R77 ++ R80) Φ78 → Ctx W w79 (R20 ++ R80) Φ21) ∧ (∀ (k81 : Nat), (∀ (w82 : World) (R83 : List Own),
  Ctx W w82 (Own.blk k81 [Value.int IntKind.i64 0, Value.int IntKind.i64 0, Value.slice none 0 0, Value.bool false] 60 :: R77 ++ R83) Φ78 → Ctx W w82 (R20
  ++ R83) Φ21) ∧ ∀ (w84 : World) (R85 : List Own), Ctx W w84 (Own.blk k81 [Value.int IntKind.i64 0, Value.int IntKind.i64 0, Value.slice none 0 0, Value.bool
  false] 60 :: R77 ++ R85) Φ78 → CanWrite w84 k81 0 4 ∧ ∀ (w86 : World), w86 = w84.setCells k81 0 [Value.int IntKind.i64 n71, Value.int IntKind.i64 n72,
  Value.slice p73 k74 k75, Value.bool c76] → ∃ (R87 : List Own), ∃ (Φ88 : PW), Stable Φ88 ∧ Ctx W w86 (R87 ++ R85) Φ88 ∧ ∃ (R89 : List Own), ∃ (Φ90 : PW),
  Stable Φ90 ∧ (∀ (w91 : World) (R92 : List Own), Ctx W w91 (R87 ++ R92) Φ88 → Ctx W w91 (R89 ++ R92) Φ90) ∧ I19 k81 0 R89 Φ90) ∧ True) ∧ (∀ (k93 : Nat),
  (∀ (w94 : World) (R95 : List Own), Ctx W w94 (Own.blk k93 [Value.int IntKind.i64 0, Value.int IntKind.i64 0, Value.slice none 0 0, Value.bool false] 60
  :: R63 ++ R95) Φ64 → Ctx W w94 (R20 ++ R95) Φ21) ∧ (∀ (w96 : World) (R97 : List Own), Ctx W w96 (Own.blk k93 [Value.int IntKind.i64 0, Value.int IntKind.i64
  0, Value.slice none 0 0, Value.bool false] 60 :: R63 ++ R97) Φ64 → Calls Tryd.prog F.erratalaw41_fitted #[Value.agg #[Value.int IntKind.i64 n26, Value.int
  IntKind.i64 n27, Value.slice p28 k29 k30, Value.bool c31], Value.int IntKind.i64 n44, Value.int IntKind.i64 n53, Value.int IntKind.i64 n62] w96 fun (e98
  : Ending) (w99 : World) => ∃ (n100 : Int), ∃ (n101 : Int), ∃ (p102 : Option Addr), ∃ (k103 : Nat), ∃ (k104 : Nat), ∃ (c105 : Bool), e98 = Ending.returned
  (Value.agg #[Value.int IntKind.i64 n100, Value.int IntKind.i64 n101, Value.slice p102 k103 k104, Value.bool c105]) ∧ ∃ (R106 : List Own), ∃ (Φ107 : PW),
  Stable Φ107 ∧ Ctx W w99 (R106 ++ R97) Φ107 ∧ (∀ (w108 : World) (R109 : List Own), Ctx W w108 (R106 ++ R109) Φ107 → Ctx W w108 (R20 ++ R109) Φ21) ∧ ∀ (w110
  : World) (R111 : List Own), Ctx W w110 (R106 ++ R111) Φ107 → CanWrite w110 k93 0 4 ∧ ∀ (w112 : World), w112 = w110.setCells k93 0 [Value.int IntKind.i64
  n100, Value.int IntKind.i64 n101, Value.slice p102 k103 k104, Value.bool c105] → ∃ (R113 : List Own), ∃ (Φ114 : PW), Stable Φ114 ∧ Ctx W w112 (R113 ++
  R111) Φ114 ∧ ∃ (R115 : List Own), ∃ (Φ116 : PW), Stable Φ116 ∧ (∀ (w117 : World) (R118 : List Own), Ctx W w117 (R113 ++ R118) Φ114 → Ctx W w117 (R115 ++
  R118) Φ116) ∧ I19 k93 0 R115 Φ116) ∧ True) ∧ True) ∧ (∀ (k119 : Nat), (∀ (w120 : World) (R121 : List Own), Ctx W w120 (Own.blk k119 [Value.int IntKind.i64
  0, Value.int IntKind.i64 0, Value.slice none 0 0, Value.bool false] 60 :: R54 ++ R121) Φ55 → Ctx W w120 (R20 ++ R121) Φ21) ∧ (∀ (w122 : World) (R123 :
  List Own), Ctx W w122 (Own.blk k119 [Value.int IntKind.i64 0, Value.int IntKind.i64 0, Value.slice none 0 0, Value.bool false] 60 :: R54 ++ R123) Φ55 →
  Calls Tryd.prog F.ledger_Ledger_Next #[Value.pointer p4] w122 fun (e124 : Ending) (w125 : World) => ∃ (n126 : Int), e124 = Ending.returned (Value.int IntKind.i64
  n126) ∧ ∃ (R127 : List Own), ∃ (Φ128 : PW), Stable Φ128 ∧ Ctx W w125 (R127 ++ R123) Φ128 ∧ (∀ (w129 : World) (R130 : List Own), Ctx W w129 (R127 ++ R130)
  Φ128 → Ctx W w129 (R20 ++ R130) Φ21) ∧ (∀ (w131 : World) (R132 : List Own), Ctx W w131 (R127 ++ R132) Φ128 → Calls Tryd.prog F.erratalaw41_fitted #[Value.agg
  #[Value.int IntKind.i64 n26, Value.int IntKind.i64 n27, Value.slice p28 k29 k30, Value.bool c31], Value.int IntKind.i64 n44, Value.int IntKind.i64 n53,
  Value.int IntKind.i64 n126] w131 fun (e133 : Ending) (w134 : World) => ∃ (n135 : Int), ∃ (n136 : Int), ∃ (p137 : Option Addr), ∃ (k138 : Nat), ∃ (k139
  : Nat), ∃ (c140 : Bool), e133 = Ending.returned (Value.agg #[Value.int IntKind.i64 n135, Value.int IntKind.i64 n136, Value.slice p137 k138 k139, Value.bool
  c140]) ∧ ∃ (R141 : List Own), ∃ (Φ142 : PW), Stable Φ142 ∧ Ctx W w134 (R141 ++ R132) Φ142 ∧ (∀ (w143 : World) (R144 : List Own), Ctx W w143 (R141 ++ R144)
  Φ142 → Ctx W w143 (R20 ++ R144) Φ21) ∧ ∀ (w145 : World) (R146 : List Own), Ctx W w145 (R141 ++ R146) Φ142 → CanWrite w145 k119 0 4 ∧ ∀ (w147 : World),
  w147 = w145.setCells k119 0 [Value.int IntKind.i64 n135, Value.int IntKind.i64 n136, Value.slice p137 k138 k139, Value.bool c140] → ∃ (R148 : List Own),
  ∃ (Φ149 : PW), Stable Φ149 ∧ Ctx W w147 (R148 ++ R146) Φ149 ∧ ∃ (R150 : List Own), ∃ (Φ151 : PW), Stable Φ151 ∧ (∀ (w152 : World) (R153 : List Own), Ctx
  W w152 (R148 ++ R153) Φ149 → Ctx W w152 (R150 ++ R153) Φ151) ∧ I19 k119 0 R150 Φ151) ∧ True) ∧ True) ∧ True) ∧ (∀ (k154 : Nat), (∀ (w155 : World) (R156
  : List Own), Ctx W w155 (Own.blk k154 [Value.int IntKind.i64 0, Value.int IntKind.i64 0, Value.slice none 0 0, Value.bool false] 60 :: R45 ++ R156) Φ46
  → Ctx W w155 (R20 ++ R156) Φ21) ∧ (∀ (w157 : World) (R158 : List Own), Ctx W w157 (Own.blk k154 [Value.int IntKind.i64 0, Value.int IntKind.i64 0, Value.slice
  none 0 0, Value.bool false] 60 :: R45 ++ R158) Φ46 → Calls Tryd.prog F.ledger_Ledger_Mark #[Value.pointer p4] w157 fun (e159 : Ending) (w160 : World) =>
  ∃ (n161 : Int), e159 = Ending.returned (Value.int IntKind.i64 n161) ∧ ∃ (R162 : List Own), ∃ (Φ163 : PW), Stable Φ163 ∧ Ctx W w160 (R162 ++ R158) Φ163
  ∧ (∀ (w164 : World) (R165 : List Own), Ctx W w164 (R162 ++ R165) Φ163 → Ctx W w164 (R20 ++ R165) Φ21) ∧ (∀ (w166 : World) (R167 : List Own), Ctx W w166
  (R162 ++ R167) Φ163 → Calls Tryd.prog F.ledger_Ledger_Next #[Value.pointer p4] w166 fun (e168 : Ending) (w169 : World) => ∃ (n170 : Int), e168 = Ending.returned
  (Value.int IntKind.i64 n170) ∧ ∃ (R171 : List Own), ∃ (Φ172 : PW), Stable Φ172 ∧ Ctx W w169 (R171 ++ R167) Φ172 ∧ (∀ (w173 : World) (R174 : List Own),
  Ctx W w173 (R171 ++ R174) Φ172 → Ctx W w173 (R20 ++ R174) Φ21) ∧ (∀ (w175 : World) (R176 : List Own), Ctx W w175 (R171 ++ R176) Φ172 → Calls Tryd.prog
  F.erratalaw41_fitted #[Value.agg #[Value.int IntKind.i64 n26, Value.int IntKind.i64 n27, Value.slice p28 k29 k30, Value.bool c31], Value.int IntKind.i64
  n44, Value.int IntKind.i64 n161, Value.int IntKind.i64 n170] w175 fun (e177 : Ending) (w178 : World) => ∃ (n179 : Int), ∃ (n180 : Int), ∃ (p181 : Option
  Addr), ∃ (k182 : Nat), ∃ (k183 : Nat), ∃ (c184 : Bool), e177 = Ending.returned (Value.agg #[Value.int IntKind.i64 n179, Value.int IntKind.i64 n180, Value.slice
  p181 k182 k183, Value.bool c184]) ∧ ∃ (R185 : List Own), ∃ (Φ186 : PW), Stable Φ186 ∧ Ctx W w178 (R185 ++ R176) Φ186 ∧ (∀ (w187 : World) (R188 : List Own),
  Ctx W w187 (R185 ++ R188) Φ186 → Ctx W w187 (R20 ++ R188) Φ21) ∧ ∀ (w189 : World) (R190 : List Own), Ctx W w189 (R185 ++ R190) Φ186 → CanWrite w189 k154
  0 4 ∧ ∀ (w191 : World), w191 = w189.setCells k154 0 [Value.int IntKind.i64 n179, Value.int IntKind.i64 n180, Value.slice p181 k182 k183, Value.bool c184]
  → ∃ (R192 : List Own), ∃ (Φ193 : PW), Stable Φ193 ∧ Ctx W w191 (R192 ++ R190) Φ193 ∧ ∃ (R194 : List Own), ∃ (Φ195 : PW), Stable Φ195 ∧ (∀ (w196 : World)
  (R197 : List Own), Ctx W w196 (R192 ++ R197) Φ193 → Ctx W w196 (R194 ++ R197) Φ195) ∧ I19 k154 0 R194 Φ195) ∧ True) ∧ True) ∧ True) ∧ True) ∧ (∀ (k198
  : Nat), (∀ (w199 : World) (R200 : List Own), Ctx W w199 (Own.blk k198 [Value.int IntKind.i64 0, Value.int IntKind.i64 0, Value.slice none 0 0, Value.bool
  false] 60 :: R14 ++ R200) I15 → Ctx W w199 (R20 ++ R200) Φ21) ∧ (∀ (w201 : World) (R202 : List Own), Ctx W w201 (Own.blk k198 [Value.int IntKind.i64 0,
  Value.int IntKind.i64 0, Value.slice none 0 0, Value.bool false] 60 :: R14 ++ R202) I15 → Calls Tryd.prog F.ledger_Ledger_Last #[Value.pointer p4] w201
  fun (e203 : Ending) (w204 : World) => ∃ (n205 : Int), e203 = Ending.returned (Value.int IntKind.i64 n205) ∧ ∃ (R206 : List Own), ∃ (Φ207 : PW), Stable
  Φ207 ∧ Ctx W w204 (R206 ++ R202) Φ207 ∧ (∀ (w208 : World) (R209 : List Own), Ctx W w208 (R206 ++ R209) Φ207 → Ctx W w208 (R20 ++ R209) Φ21) ∧ (∀ (w210
  : World) (R211 : List Own), Ctx W w210 (R206 ++ R211) Φ207 → Calls Tryd.prog F.ledger_Ledger_Mark #[Value.pointer p4] w210 fun (e212 : Ending) (w213 :
  World) => ∃ (n214 : Int), e212 = Ending.returned (Value.int IntKind.i64 n214) ∧ ∃ (R215 : List Own), ∃ (Φ216 : PW), Stable Φ216 ∧ Ctx W w213 (R215 ++ R211)
  Φ216 ∧ (∀ (w217 : World) (R218 : List Own), Ctx W w217 (R215 ++ R218) Φ216 → Ctx W w217 (R20 ++ R218) Φ21) ∧ (∀ (w219 : World) (R220 : List Own), Ctx W
  w219 (R215 ++ R220) Φ216 → Calls Tryd.prog F.ledger_Ledger_Next #[Value.pointer p4] w219 fun (e221 : Ending) (w222 : World) => ∃ (n223 : Int), e221 = Ending.returned
  (Value.int IntKind.i64 n223) ∧ ∃ (R224 : List Own), ∃ (Φ225 : PW), Stable Φ225 ∧ Ctx W w222 (R224 ++ R220) Φ225 ∧ (∀ (w226 : World) (R227 : List Own),
  Ctx W w226 (R224 ++ R227) Φ225 → Ctx W w226 (R20 ++ R227) Φ21) ∧ (∀ (w228 : World) (R229 : List Own), Ctx W w228 (R224 ++ R229) Φ225 → Calls Tryd.prog
  F.erratalaw41_fitted #[Value.agg #[Value.int IntKind.i64 n26, Value.int IntKind.i64 n27, Value.slice p28 k29 k30, Value.bool c31], Value.int IntKind.i64
  n205, Value.int IntKind.i64 n214, Value.int IntKind.i64 n223] w228 fun (e230 : Ending) (w231 : World) => ∃ (n232 : Int), ∃ (n233 : Int), ∃ (p234 : Option
  Addr), ∃ (k235 : Nat), ∃ (k236 : Nat), ∃ (c237 : Bool), e230 = Ending.returned (Value.agg #[Value.int IntKind.i64 n232, Value.int IntKind.i64 n233, Value.slice
  p234 k235 k236, Value.bool c237]) ∧ ∃ (R238 : List Own), ∃ (Φ239 : PW), Stable Φ239 ∧ Ctx W w231 (R238 ++ R229) Φ239 ∧ (∀ (w240 : World) (R241 : List Own),
  Ctx W w240 (R238 ++ R241) Φ239 → Ctx W w240 (R20 ++ R241) Φ21) ∧ ∀ (w242 : World) (R243 : List Own), Ctx W w242 (R238 ++ R243) Φ239 → CanWrite w242 k198
  0 4 ∧ ∀ (w244 : World), w244 = w242.setCells k198 0 [Value.int IntKind.i64 n232, Value.int IntKind.i64 n233, Value.slice p234 k235 k236, Value.bool c237]
  → ∃ (R245 : List Own), ∃ (Φ246 : PW), Stable Φ246 ∧ Ctx W w244 (R245 ++ R243) Φ246 ∧ ∃ (R247 : List Own), ∃ (Φ248 : PW), Stable Φ248 ∧ (∀ (w249 : World)
  (R250 : List Own), Ctx W w249 (R245 ++ R250) Φ246 → Ctx W w249 (R247 ++ R250) Φ248) ∧ I19 k198 0 R247 Φ248) ∧ True) ∧ True) ∧ True) ∧ True) ∧ True
end Go.Proofs.YtbkpfhhhbhaecaaDoor
end

/-
  The step 'fitted(l[i], a.Last(), a.Mark(), a.Next())' of the laws of ledgers, walked.
-/
section
set_option linter.unusedVariables false
set_option linter.unusedSimpArgs false
namespace Go.Proofs.YtbkpfhhhbhaecaaDoor
open Go.Vc


section
variable {Φ : PW} {q : LP} {st : LedD} {W w : World} {Q R S G : List Own} {P : Program} {f : FuncId} {args : Array Value}

theorem perm_in {B : Own} : (B :: (Q ++ R) ++ G).Perm (Q ++ (B :: (R ++ G))) := by
  rw [List.cons_append, List.append_assoc]
  exact List.perm_middle.symm
theorem _root_.Go.Vc.GivesQ.toI1 [Stable Φ] {B : Own} {n : Int} {k : IntKind} (h : GivesQ Q Φ P f args (.int k n)) (c : Ctx W w ((B :: (Q ++ R)) ++ G) Φ) {K : Int → List Own → PW → Prop} (hk : K n (B :: (Q ++ R)) Φ) :
    Calls P f args w fun e w' => ∃ n, e = .returned (.int k n) ∧ ∃ R' Φ', Stable Φ' ∧ Ctx W w' (R' ++ G) Φ' ∧ K n R' Φ' :=
  (h.go W w (B :: (R ++ G)) (c.perm perm_in)).mono fun e w' ⟨he, c'⟩ => ⟨n, he, B :: (Q ++ R), Φ, inferInstance, c'.perm perm_in.symm, hk⟩

abbrev fitOf (st : LedD) (x : PushD) : PushD := fitP x (lastP st).no (lastP st).mark ((st.lines.length : Int) + 1)
abbrev zPush : List Value := [.int .i64 0, .int .i64 0, .slice none 0 0, .bool false]

set_option maxHeartbeats 4000000 in
theorem fit_tree [Stable Φ] {l : List PushD} {i : Nat} (hlt : i < l.length) {lP : Option Addr} {g o : Nat} {cs : List (List Value)} (hp : lP = some ⟨g, o, none⟩) (hPin : ∀ M w, Φ M w → Pin g o cs l M w) {r : Option Addr} {rc : Nat} (he : cs.getD i [] = l[i].cells r rc)
    (h1 : l[i].l.length ≤ rc) (h2 : rc ≤ maxLen) (hl : l[i].l.length ≤ 100000) (hq : LedQ q st) (hs : LedS st) (hm : -1 ≤ (lastP st).mark ∧ (lastP st).mark ≤ 1099511627776) {K : Nat → Nat → List Own → PW → Prop}
    (hK : ∀ kb p' c', (fitOf st l[i]).l.length ≤ c' → c' ≤ maxLen → There p' (fitOf st l[i]).l.length → Stable (fun M w => Φ M w ∧ Sl M w p' (fitOf st l[i]).l) → K kb 0 (LedO q st ++ (.blk kb ((fitOf st l[i]).cells p' c') 60 :: R)) (fun M w => Φ M w ∧ Sl M w p' (fitOf st l[i]).l)) :
    FitTree lP l.length (i : Int) (some ⟨q.lb, 0, none⟩) W (LedO q st ++ R) Φ K := by
  have hsl := hs.lines
  have hh : Has Φ (fun M w => Sl M w r l[i].l) := ⟨fun M w h => pinp_sl (hPin M w h) hlt he⟩
  have fin1 : ∀ {kb : Nat} {p' : Option Addr} {c' : Nat}, (fitOf st l[i]).l.length ≤ c' → c' ≤ maxLen → There p' (fitOf st l[i]).l.length → Stable (fun M w => Φ M w ∧ Sl M w p' (fitOf st l[i]).l) → ∀ {w : World} {G : List Own}, Ctx W w ((.blk kb zPush 60 :: (LedO q st ++ R)) ++ G) (fun M w => Φ M w ∧ Sl M w p' (fitOf st l[i]).l) →
      CanWrite w kb 0 4 ∧ ∀ w2, w2 = w.setCells kb 0 ((fitOf st l[i]).cells p' c') → ∃ R1 Φ1, Stable Φ1 ∧ Ctx W w2 (R1 ++ G) Φ1 ∧ ∃ R2 Φ2, Stable Φ2 ∧ (∀ w F, Ctx W w (R1 ++ F) Φ1 → Ctx W w (R2 ++ F) Φ2) ∧ K kb 0 R2 Φ2 := fun {kb p' c'} k1 k2 k3 k4 {w G} cx =>
    ⟨cx.can 0 rfl (by show 0 + 4 ≤ 4; decide), fun w2 e => ⟨.blk kb ((fitOf st l[i]).cells p' c') 60 :: (LedO q st ++ R), _, k4, cx.puts 0 e rfl, LedO q st ++ (.blk kb ((fitOf st l[i]).cells p' c') 60 :: R), _, k4, fun w F c => Ctx.outl (Q := LedO q st) (R := .blk kb ((fitOf st l[i]).cells p' c') 60 :: R) (G := F) (Ctx.perm c perm_in), hK kb p' c' k1 k2 k3 k4⟩⟩
  have fitA : ∀ {R0 G : List Own} {w : World} {K : Int → Int → Option Addr → Nat → Nat → Bool → List Own → PW → Prop}, Ctx W w (R0 ++ G) Φ → (∀ p' c', (fitOf st l[i]).l.length ≤ c' → c' ≤ maxLen → There p' (fitOf st l[i]).l.length → Stable (fun M w => Φ M w ∧ Sl M w p' (fitOf st l[i]).l) → K (fitOf st l[i]).batch (fitOf st l[i]).mark p' (fitOf st l[i]).l.length c' (fitOf st l[i]).fit R0 (fun M w => Φ M w ∧ Sl M w p' (fitOf st l[i]).l)) →
      Calls Tryd.prog F.erratalaw41_fitted #[l[i].v r rc, .int .i64 (lastP st).no, .int .i64 (lastP st).mark, .int .i64 ((st.lines.length : Int) + 1)] w fun e w' => ∃ a b p' k c' f, e = .returned (.agg #[.int .i64 a, .int .i64 b, .slice p' k c', .bool f]) ∧ ∃ R' Φ', Stable Φ' ∧ Ctx W w' (R' ++ G) Φ' ∧ K a b p' k c' f R' Φ' := fun {R0 G w K} cx h =>
    fitted_to (x := l[i]) (R := R0) h1 h2 hl hm (by omega) cx h
  unfold FitTree
  refine ⟨LedO q st ++ R, Φ, inferInstance, fun w G c => c, by omega, ptrK_intro g o hp ⟨l[i].batch, l[i].mark, r, l[i].l.length, rc, l[i].fit, fun w G cx => ⟨_, _, _, _, _, _, by rw [Int.toNat_natCast]; exact pinp_rowAt (hPin _ _ cx.phi) hlt he, rfl⟩, ?_⟩⟩
  refine ⟨fun w G cx => (Last_q hq hs).toI cx ⟨fun w G c => c, ⟨fun w G cx => (Mark_q hq hs).toI cx ⟨fun w G c => c, ⟨fun w G cx => (Next_q hs).toI cx ⟨fun w G c => c, ?A, ?B⟩, ?C⟩⟩, ?D⟩⟩, ?E⟩
  case A => exact fun w G cx => fitA cx fun p' c' k1 k2 k3 k4 => ⟨fun w G c => c.fst, fun kb => ⟨fun w G c => Ctx.drop1 c.fst, fun w G cx => fin1 k1 k2 k3 k4 cx⟩, trivial⟩
  case B => exact ⟨fun kb => ⟨fun w G c => Ctx.drop1 c, fun w G cx => fitA cx fun p' c' k1 k2 k3 k4 => ⟨fun w G c => Ctx.drop1 c.fst, fun w G cx => fin1 k1 k2 k3 k4 cx⟩, trivial⟩, trivial⟩
  case C => exact ⟨fun kb => ⟨fun w G c => Ctx.drop1 c, fun w G cx => (Next_q hs).toI1 cx ⟨fun w G c => Ctx.drop1 c, fun w G cx => fitA cx fun p' c' k1 k2 k3 k4 => ⟨fun w G c => Ctx.drop1 c.fst, fun w G cx => fin1 k1 k2 k3 k4 cx⟩, trivial⟩, trivial⟩, trivial⟩
  case D => exact ⟨fun kb => ⟨fun w G c => Ctx.drop1 c, fun w G cx => (Mark_q hq hs).toI1 cx ⟨fun w G c => Ctx.drop1 c, fun w G cx => (Next_q hs).toI1 cx ⟨fun w G c => Ctx.drop1 c, fun w G cx => fitA cx fun p' c' k1 k2 k3 k4 => ⟨fun w G c => Ctx.drop1 c.fst, fun w G cx => fin1 k1 k2 k3 k4 cx⟩, trivial⟩, trivial⟩, trivial⟩, trivial⟩
  case E => exact ⟨fun kb => ⟨fun w G c => Ctx.drop1 c, fun w G cx => (Last_q hq hs).toI1 cx ⟨fun w G c => Ctx.drop1 c, fun w G cx => (Mark_q hq hs).toI1 cx ⟨fun w G c => Ctx.drop1 c, fun w G cx => (Next_q hs).toI1 cx ⟨fun w G c => Ctx.drop1 c, fun w G cx => fitA cx fun p' c' k1 k2 k3 k4 => ⟨fun w G c => Ctx.drop1 c.fst, fun w G cx => fin1 k1 k2 k3 k4 cx⟩, trivial⟩, trivial⟩, trivial⟩, trivial⟩, trivial⟩
end
end Go.Proofs.YtbkpfhhhbhaecaaDoor
end

/-
  The law PlaceKeys, walked.
-/
section
set_option linter.unusedVariables false
set_option linter.unusedSimpArgs false
namespace Go.Proofs.YtbkpfhhhbhaecaaDoor
open Go.Vc


section
variable {Φ : PW} {p q : Option Addr} {cap cap2 : Nat} {a b : List ValD}

theorem short_out {r : List ValD} {n : Int} (h : shortB r n = true) : (∀ v ∈ r, v.text.size ≤ 300) ∧ (r.length : Int) ≤ n := by
  unfold shortB at h
  rw [Bool.and_eq_true] at h
  exact ⟨fun v hv => of_decide_eq_true (List.all_eq_true.1 h.1 v hv), of_decide_eq_true h.2⟩
end
end Go.Proofs.YtbkpfhhhbhaecaaDoor
end

/-
  The law LedgerSums, in plain Lean.
-/
section
set_option linter.unusedVariables false
set_option linter.unusedSimpArgs false
namespace Go.Proofs.YtbkpfhhhbhaecaaDoor
open Go.Vc


/-- what holds of a ledger at any time -/
structure Inv (st : LedD) : Prop where
  cnt : CntOk st
  bats : BatsOk st
  time : ∀ x ∈ st.lines, x.time ≤ (lastP st).mark
  mark : -1 ≤ (lastP st).mark ∧ (lastP st).mark ≤ 1099511627776
  fit : RowsFit st.lines

theorem last_app (st : LedD) (no mark : Int) (L : List LineD) : lastP (appP st no mark L) = ⟨no, mark, (st.lines ++ L).length⟩ := by
  unfold lastP appP
  rw [List.getLast?_append]; rfl
theorem Inv.start : Inv ⟨[], []⟩ where
  cnt := s_cnt0
  bats := ⟨fun i h => by simp at h, by simp⟩
  time := by simp
  mark := by decide
  fit := fun x hx => by simp at hx
theorem Inv.app {st : LedD} {no mark : Int} {L : List LineD} (h : Inv st) (hs : LedS st) (ac : AccB st no mark L) (hf : RowsFit L) (h1 : I64 no) : Inv (appP st no mark L) where
  cnt := ac.cnt hf h.cnt
  bats := app_bats hs h.bats h1 (by have := h.mark; have := ac.gmark; have := ac.most; unfold I64; omega)
  time := fun x hx => by
    rw [last_app]
    show x.time ≤ mark
    rcases List.mem_append.1 hx with hx | hx
    · have := h.time x hx; have := ac.gmark; omega
    · obtain ⟨_, g⟩ := ac.mem hx
      exact g.t1
  mark := by
    rw [last_app]
    show -1 ≤ mark ∧ mark ≤ _
    have := h.mark; have := ac.gmark; have := ac.most; omega
  fit := fun x hx => by
    rcases List.mem_append.1 hx with hx | hx
    · exact h.fit x hx
    · exact hf x hx

theorem net_find (l : List LineD) (k : Key) : findP (netP l) k = w64 (sumK (l.map LineD.d) k) := by unfold netP; rw [find_cons]; rfl
theorem sum_cnt {z : LineD} (hz : ∀ v ∈ z.row, FitV v) (hzl : z.row.length ≤ 1000000) : ∀ {l : List LineD}, RowsFit l → (∀ x ∈ l, x.row.length ≤ 1000000) → sumK (l.map LineD.d) z.key = cntL l z.at
  | [], _, _ => rfl
  | x :: l, hf, hr => by
    have ih := sum_cnt hz hzl (l := l) (fun y hy => hf y (by simp [hy])) (fun y hy => hr y (by simp [hy]))
    show (if x.d.key = z.key then x.d.n else 0) + sumK (l.map LineD.d) z.key = (if x.at = z.at then x.n else 0) + cntL l z.at
    rw [ih]
    congr 1
    by_cases h : x.at = z.at
    · rw [if_pos h, if_pos (key_of_at (hf x (by simp)) hz (hr x (by simp)) hzl h)]; rfl
    · rw [if_neg h, if_neg]
      intro e
      apply h
      have e1 : x.time = z.time := congrArg Prod.fst e
      have e2 : x.row = z.row := congrArg Prod.snd e
      unfold LineD.at
      rw [e1, e2]

theorem few_out {l : List PushD} {n : Int} (h : fewL l n = true) : (l.length : Int) ≤ n ∧ ∀ x ∈ l, x.l.length ≤ 12 ∧ (∀ y ∈ x.l, y.row.length ≤ 13 ∧ ∀ v ∈ y.row, v.text.size ≤ 300) := by
  unfold fewL at h
  rw [Bool.and_eq_true] at h
  refine ⟨of_decide_eq_true h.2, fun x hx => ?_⟩
  have h1 := List.all_eq_true.1 h.1 x hx
  unfold shortL at h1
  rw [Bool.and_eq_true] at h1
  have h2 := of_decide_eq_true h1.2
  refine ⟨by omega, fun y hy => ?_⟩
  obtain ⟨g1, g2⟩ := short_out (List.all_eq_true.1 h1.1 y hy)
  exact ⟨by omega, g1⟩
end Go.Proofs.YtbkpfhhhbhaecaaDoor
end

/-
  The law LedgerSums, walked.
-/
section
set_option linter.unusedVariables false
set_option linter.unusedSimpArgs false
namespace Go.Proofs.YtbkpfhhhbhaecaaDoor
open Go.Vc


section
variable {Φ : PW} {q : LP} {st : LedD} {W w : World} {R S G : List Own} {p : Option Addr} {cap : Nat}

/-- what lies beside the ledger is let go -/
theorem drop_mid [Stable Φ] {B : Own} (c : Ctx W w ((LedO q st ++ (B :: R)) ++ G) Φ) : Ctx W w ((LedO q st ++ R) ++ G) Φ :=
  c.sub (List.Sublist.append (List.Sublist.append (List.Sublist.refl _) (List.sublist_cons_self B R)) (List.Sublist.refl G))

end
end Go.Proofs.YtbkpfhhhbhaecaaDoor
end

/-
  Line, Batch, History and made, walked; lines that are the same.
-/
section
set_option linter.unusedVariables false
set_option linter.unusedSimpArgs false
namespace Go.Proofs.YtbkpfhhhbhaecaaDoor
open Go.Vc


/-! ### plain -/
def sameL (x y : LineD) : Bool := decide (x.no = y.no) && decide (x.batch = y.batch) && decide (x.time = y.time) && decide (x.n = y.n) && decide (x.cause = y.cause) && decide (x.why = y.why) && decide (cmpR x.row y.row = 0)
theorem sameL_refl (x : LineD) : sameL x x = true := by unfold sameL; simp [cmpR_cmp.refl]
def sameLs (a b : List LineD) : Bool := decide (a.length = b.length) && (a.zip b).all fun x => sameL x.1 x.2
def isAt (t : Int) (r : List ValD) (x : LineD) : Bool := decide (x.time = t) && decide (x.row = r)
def histP (l : List LineD) (t : Int) (r : List ValD) : List LineD := l.filter (isAt t r)

section
variable {Φ : PW} {q : LP} {st : LedD} {W w : World} {R S G : List Own} {p r : Option Addr} {cap cap2 : Nat}

theorem Same03r_in [Stable Φ] {a b : List ValD} [hA : Has Φ (fun M w => Sl M w p a)] [hB : Has Φ (fun M w => Sl M w r b)] (hlen : a.length ≤ 1000000) : GivesIn Φ Tryd.prog F.errataref03_Same #[.slice p a.length cap, .slice r b.length cap2] (.bool (decide (cmpR a b = 0))) :=
  gives_in (Berrataref03_Same_run p a.length cap r b.length cap2) fun W R => fun w G cx => (rCompareRows_in p r cap cap2 a b hA.go hB.go (by omega)).toI cx fun w G cx => ⟨rfl, cx.left⟩
theorem SameLine_in [Stable Φ] (x y : LineD) [hA : Has Φ (fun M w => Sl M w p x.row)] [hB : Has Φ (fun M w => Sl M w r y.row)] (hlen : x.row.length ≤ 1000000) : GivesIn Φ Tryd.prog F.errataref41_SameLine #[x.v p cap, y.v r cap2] (.bool (sameL x y)) := by
  refine gives_in (Berrataref41_SameLine_run x.no x.batch x.time p x.row.length cap x.n x.cause x.why y.no y.batch y.time r y.row.length cap2 y.n y.cause y.why) fun W R => fun _ _ => ?_
  unfold sameL
  refine Br.intro (fun h => ?_) (fun h => fun w G cx => ⟨by rw [h]; rfl, cx.left⟩)
  rw [h]
  refine Br.intro (fun h => ?_) (fun h => fun w G cx => ⟨by rw [h]; rfl, cx.left⟩)
  rw [h]
  refine Br.intro (fun h => ?_) (fun h => fun w G cx => ⟨by rw [h]; rfl, cx.left⟩)
  rw [h]
  refine Br.intro (fun h => ?_) (fun h => fun w G cx => ⟨by rw [h]; rfl, cx.left⟩)
  rw [h]
  refine Br.intro (fun h => ?_) (fun h => fun w G cx => ⟨by rw [h]; rfl, cx.left⟩)
  rw [h]
  refine Br.intro (fun h => ?_) (fun h => fun w G cx => ⟨by rw [h]; rfl, cx.left⟩)
  rw [h]
  exact fun w G cx => (Same03r_in (a := x.row) (b := y.row) hlen).toB cx fun w G cx => ⟨rfl, cx.left⟩

/-- lines that are handed back, with their cells -/
theorem _root_.Go.Vc.GivesQSl.src [Stable Φ] {Q : List Own} {f : FuncId} {args : Array Value} {l : List LineD} (h : GivesQSl Q Φ Tryd.prog f args l) (c : Ctx W w ((Q ++ R) ++ G) Φ) {K : Option Addr → Nat → Nat → List Own → PW → Prop}
    (hk : ∀ p cap cs, l.length ≤ cap → cap ≤ maxLen → There p l.length → Rows7 cs l → Stable (fun M w => Φ M w ∧ SrcF p l cs M w) → K p l.length cap (Q ++ R) (fun M w => Φ M w ∧ SrcF p l cs M w)) :
    Calls Tryd.prog f args w fun e w' => ∃ p n c, e = .returned (.slice p n c) ∧ ∃ R' Φ', Stable Φ' ∧ Ctx W w' (R' ++ G) Φ' ∧ K p n c R' Φ' :=
  (h.go W w (R ++ G) c.inl).mono fun e w' ⟨p, cap, he, h1, h2, c'⟩ => by
    obtain ⟨cs, c2⟩ := srcOf c' c'.phi.2
    have hst : Stable (fun M w => Φ M w ∧ SrcF p l cs M w) := instStableAnd Φ (fun M w => SrcF p l cs M w)
    exact ⟨p, _, cap, he, Q ++ R, _, hst, c2.outl.weak fun M w h => ⟨h.1.1, h.2⟩, hk p cap cs h1 h2 c'.phi.2.there (rows7 c2.phi.2.2) hst⟩

/-- append one line -/
theorem pushL {PS : PW} [Stable PS] {op : Option Addr} {oc : Nat} {ds : List Value} {o : List LineD} {x : LineD} {a : Option Addr} {ac kb : Nat} (hx : ∀ M w, PS M w → Gv.rep M w (x.cells a ac) x) (ho : o.length < 10000000)
    (cx : Ctx W w (.blk kb (x.cells a ac) 81 :: .buf op o.length oc ds 81 7 :: R ++ G) (fun M w => PS M w ∧ Elems M w ds o)) :
    ∃ p c w', Sem.run Tryd.prog (builtin Builtin.append #[57, 57] 57 #[false, false] #[.slice op o.length oc, .slice (some ⟨kb, 0, none⟩) 1 1]) w = .ok (.value (.slice p (o ++ [x]).length c)) w' ∧ Ctx W w' (.buf p (o ++ [x]).length c (ds ++ x.cells a ac) 81 7 :: R ++ G) (fun M w => PS M w ∧ Elems M w (ds ++ x.cells a ac) (o ++ [x])) := by
  obtain ⟨p', cap', w', hrun, _, cx'⟩ := Ctx.app1 (P := Tryd.prog) (ts := 57) (ty := 57) (kb := #[false, false]) (size := 7) (bytes := 72) cx (by kernel_rfl) (by omega) rfl rfl (by omega) (by omega)
  have e : o.length + 1 = (o ++ [x]).length := by simp
  rw [e] at hrun cx'
  exact ⟨p', cap', w', hrun, cx'.weak fun M w h => ⟨h.1, h.2.snoc (hx M w h.1)⟩⟩

set_option maxHeartbeats 1000000 in
theorem History_q [Stable Φ] {t : Int} {rw : List ValD} (hq : LedQ q st) (hs : LedS st) [hF : Has Φ (LF q st)] [hR : Has Φ (fun M w => Sl M w r rw)] : GivesQSl (LedO q st) Φ Tryd.prog F.ledger_Ledger_History #[led q, .int .i64 t, .slice r rw.length cap] (histP st.lines t rw) := by
  have hsl := hs.lines
  refine gives_qsl (Bledger_Ledger_History_run q.lb 0 t r rw.length cap) fun W R => fun w G cx => ⟨_, _, _, led_cell (i := 0) cx rfl, ?_⟩
  have hel := hF.go _ _ cx.phi
  have hc : Rows7 q.cs st.lines := hq.cells
  clear cx
  refine exI_mk (fun op on oc iI R' Φ' k => ∃ (i : Nat) (ds : List Value), iI = i ∧ i ≤ st.lines.length ∧ on = ((st.lines.take i).filter (isAt t rw)).length ∧ R' = .buf op on oc ds 81 7 :: (LedO q st ++ R) ∧ Φ' = (fun M w => Φ M w ∧ Elems M w ds ((st.lines.take i).filter (isAt t rw))) ∧ k = st.lines.length - i)
    ⟨⟨.buf none 0 0 [] 81 7 :: (LedO q st ++ R), fun M w => Φ M w ∧ Elems M w [] ((st.lines.take 0).filter (isAt t rw)), _, inferInstance, fun w G cx => (cx.weak fun M w h => ⟨h, Elems.nil⟩).nobuf 81 7, 0, [], rfl, Nat.zero_le _, rfl, rfl, rfl, rfl⟩, ?_⟩
  rintro op _ oc iI R1 Φ1 k _ ⟨i, ds, rfl, hi, rfl, rfl, rfl, rfl⟩
  have hln : ((st.lines.take i).filter (isAt t rw)).length ≤ i := Nat.le_trans (List.length_filter_le _ _) (by rw [List.length_take]; omega)
  have hst : Stable (fun M w => Φ M w ∧ Elems M w ds ((st.lines.take i).filter (isAt t rw))) := inferInstance
  refine Br.intro (fun hlt => ?_) (fun hge => fun w G cx => ?_)
  · have hlt : i < st.lines.length := by have := of_decide_eq_true hlt; omega
    obtain ⟨g, hg⟩ := hq.lpt (by omega)
    obtain ⟨a, ac, he, h1, h2, h3⟩ := hc i hlt
    have htk : (st.lines.take (i + 1)).filter (isAt t rw) = (st.lines.take i).filter (isAt t rw) ++ if isAt t rw st.lines[i] = true then [st.lines[i]] else [] := by
      rw [List.take_succ_eq_append_getElem hlt, List.filter_append]
      congr 1
      by_cases h : isAt t rw st.lines[i] = true
      · rw [if_pos h, List.filter_cons_of_pos h]; rfl
      · rw [if_neg h, List.filter_cons_of_neg h]; rfl
    have hrow : ∀ M w, (Φ M w ∧ Elems M w ds ((st.lines.take i).filter (isAt t rw))) → Sl M w a st.lines[i].row := fun M w h => led_row (hF.go _ _ h.1) hlt he
    have hh : Has (fun M w => Φ M w ∧ Elems M w ds ((st.lines.take i).filter (isAt t rw))) (fun M w => Sl M w a st.lines[i].row) := ⟨hrow⟩
    refine ⟨by omega, ptrK_intro g 0 hg fun w G cx => ⟨st.lines[i].no, st.lines[i].batch, st.lines[i].time, a, st.lines[i].row.length, ac, st.lines[i].n, st.lines[i].cause, st.lines[i].why, by rw [Int.toNat_natCast]; exact led_line (Ctx.drop1 cx) hg he, fun _ => ?_⟩⟩
    clear cx
    have same : ¬ isAt t rw st.lines[i] = true → (st.lines.take (i + 1)).filter (isAt t rw) = (st.lines.take i).filter (isAt t rw) := fun h => by rw [htk, if_neg h, List.append_nil]
    refine Br.intro (fun h4 => fun w G cx => ?_) (fun h4 => ?_)
    · refine (SameRows_in (a := st.lines[i].row) (b := rw) (by have := hs.row _ (List.getElem_mem hlt); omega)).toB cx ?_
      clear cx
      refine Br.intro (fun h5 => fun kb w G cx => ?_) (fun h5 => ?_)
      · have hat : isAt t rw st.lines[i] = true := by unfold isAt; rw [h4, h5]; rfl
        rw [if_pos hat] at htk
        obtain ⟨p', c', w', hrun, cx'⟩ := pushL (x := st.lines[i]) (PS := Φ) (a := a) (ac := ac) (fun M w h => rep_line h1 h2 h3 (led_row (hF.go _ _ h) hlt he)) (by omega) cx
        rw [← htk] at hrun cx'
        exact ⟨p', _, c', w', hrun, _, _, @instStableAnd Φ _ _ (instStableElems (ds ++ st.lines[i].cells a ac) _), cx', by unfold I64; omega, _, _, st.lines.length - (i + 1), @instStableAnd Φ _ _ (instStableElems (ds ++ st.lines[i].cells a ac) _), fun w G cx => cx, ⟨i + 1, _, rfl, hlt, rfl, rfl, rfl, rfl⟩, by omega⟩
      · have h6 := same (by unfold isAt; rw [h5]; simp)
        exact ⟨by unfold I64; omega, _, _, st.lines.length - (i + 1), hst, fun w G cx => cx, ⟨i + 1, ds, rfl, hlt, by rw [h6], rfl, by rw [h6], rfl⟩, by omega⟩
    · have h6 := same (by unfold isAt; rw [h4]; simp)
      exact ⟨by unfold I64; omega, _, _, st.lines.length - (i + 1), hst, fun w G cx => cx, ⟨i + 1, ds, rfl, hlt, by rw [h6], rfl, by rw [h6], rfl⟩, by omega⟩
  · have hge : i = st.lines.length := by have := of_decide_eq_false hge; omega
    subst hge
    rw [List.take_length] at cx hln ⊢
    obtain ⟨cx3, hsl2, _⟩ := Ctx.freeze (α := LineD) cx.fst cx.phi.2
    exact (Cloned_sl (Φ := fun M w => Φ M w ∧ Sl M w op (histP st.lines t rw)) (l := histP st.lines t rw) (by unfold histP; omega) (fun x hx => hs.rows x (List.mem_filter.1 hx).1)).to (cx3.add hsl2) fun p' c' k1 k2 _ => fun w G cx => ⟨p', c', rfl, k1, k2, cx.left.weak fun M w h => ⟨h.1.1, h.2⟩⟩

set_option maxHeartbeats 1000000 in
theorem Line_to [Stable Φ] {no : Int} (hq : LedQ q st) (hs : LedS st) [hF : Has Φ (LF q st)] (cx : Ctx W w ((LedO q st ++ R) ++ G) Φ) {K : Int → Int → Int → Option Addr → Nat → Nat → Int → Int → Int → Bool → List Own → PW → Prop}
    (h0 : ¬ (1 ≤ no ∧ no ≤ st.lines.length) → K 0 0 0 none 0 0 0 0 0 false (LedO q st ++ R) Φ)
    (h1 : ∀ (j : Nat) (hj : j < st.lines.length) a ac, no = j + 1 → st.lines[j].row.length ≤ ac → ac ≤ maxLen → Stable (fun M w => Φ M w ∧ Sl M w a st.lines[j].row) → K st.lines[j].no st.lines[j].batch st.lines[j].time a st.lines[j].row.length ac st.lines[j].n st.lines[j].cause st.lines[j].why true (LedO q st ++ R) (fun M w => Φ M w ∧ Sl M w a st.lines[j].row)) :
    Calls Tryd.prog F.ledger_Ledger_Line #[led q, .int .i64 no] w fun e w' => ∃ a b c d f g h i j k, e = .returned (.tuple #[.agg #[.int .i64 a, .int .i64 b, .int .i64 c, .slice d f g, .int .i64 h, .int .i64 i, .int .i64 j], .bool k]) ∧ ∃ R' Φ', Stable Φ' ∧ Ctx W w' (R' ++ G) Φ' ∧ K a b c d f g h i j k R' Φ' := by
  have hsl := hs.lines
  refine (Bledger_Ledger_Line_run q.lb 0 no (R := (LedO q st ++ R) ++ G) (J := fun v w' => ∃ a b c d f g h i j k, v = .tuple #[.agg #[.int .i64 a, .int .i64 b, .int .i64 c, .slice d f g, .int .i64 h, .int .i64 i, .int .i64 j], .bool k] ∧ ∃ R' Φ', Stable Φ' ∧ Ctx W w' (R' ++ G) Φ' ∧ K a b c d f g h i j k R' Φ') cx ?_).mono fun e w' ⟨v, he, a, b, c, d, f, g, h, i, j, k, hv, rest⟩ => ⟨a, b, c, d, f, g, h, i, j, k, by rw [he, hv], rest⟩
  clear cx
  refine fun _ => Br.intro (fun h => fun w G2 cx => ⟨_, _, _, _, _, _, _, _, _, _, rfl, _, Φ, inferInstance, cx.left, h0 (by have := of_decide_eq_true h; omega)⟩) (fun h => fun w G2 cx => (Next_q hs).toI (R := R ++ G) (cx.re (by simp)) ?_)
  clear cx
  refine Br.intro (fun h2 => fun w G2 cx => ⟨_, _, _, _, _, _, _, _, _, _, rfl, _, Φ, inferInstance, cx.left.re (by simp), h0 (by have := of_decide_eq_true h2; omega)⟩) (fun h2 => fun w G2 cx => ?_)
  have h := of_decide_eq_false h
  have h2 := of_decide_eq_false h2
  obtain ⟨j, rfl⟩ : ∃ j : Nat, no = j + 1 := ⟨(no - 1).toNat, by omega⟩
  have hj : j < st.lines.length := by omega
  have hlc := hq.lcap.1
  refine ⟨_, _, _, led_cell (i := 0) cx rfl, by unfold I64; omega, by omega, ?_⟩
  clear cx
  rw [show ((j : Int) + 1 - 1).toNat = j by omega, show ((j : Int) + 1).toNat - j = 1 by omega]
  have hone : (st.lines.drop j).take 1 = [st.lines[j]] := by rw [List.drop_eq_getElem_cons hj]; rfl
  have hsrc := src_led (Φ := Φ) hq hF.go j 1 (by omega)
  rw [hone] at hsrc
  refine fun w G2 cx => (Cloned_new (cap := q.lc - j) (S := (LedO q st ++ (R ++ G)) ++ G2) hsrc.app.app (by simp) (fun x hx => hs.rows x (by rw [List.mem_singleton.1 hx]; exact List.getElem_mem _)) cx).mono fun e w' ⟨p', c', cs', he, cx⟩ => ?_
  obtain ⟨cx1, hs1, _⟩ := Ctx.freeze (α := LineD) cx cx.phi.2
  obtain ⟨cs2, cx2⟩ := srcOf cx1 hs1
  have hth := hs1.there
  obtain ⟨g, o, rfl⟩ := hth (by simp)
  have stE : Stable (fun M w => Φ M w ∧ Elems M w cs' [st.lines[j]]) := @instStableAnd Φ _ _ (instStableElems cs' [st.lines[j]])
  have stR : ∀ a : Option Addr, Stable (fun M w => Φ M w ∧ Sl M w a st.lines[j].row) := fun a => @instStableAnd Φ _ _ (instStableSl a st.lines[j].row)
  obtain ⟨a, ac, hec, m1, m2, m3⟩ := rows7 cx2.phi.2.2 0 (by simp)
  simp only [List.getElem_cons_zero] at hec m1 m3
  refine ⟨some ⟨g, o, none⟩, 1, c', he, LedO q st ++ (R ++ G), fun M w => (Φ M w ∧ Elems M w cs' [st.lines[j]]) ∧ SrcF (some ⟨g, o, none⟩) [st.lines[j]] cs2 M w, @instStableAnd _ (fun M w => SrcF (some ⟨g, o, none⟩) [st.lines[j]] cs2 M w) stE (instStableSrcF _ _ _), cx2, ⟨by omega, by omega⟩, ptrK_intro g o rfl fun w G2 cx => ?_⟩
  have src2 : Src [] (fun M w => (Φ M w ∧ Elems M w cs' [st.lines[j]]) ∧ SrcF (some ⟨g, o, none⟩) [st.lines[j]] cs2 M w) (some ⟨g, o, none⟩) [st.lines[j]] cs2 := src_fact (fun _ => ⟨g, o, rfl⟩) fun M w h => h.2
  refine ⟨st.lines[j].no, st.lines[j].batch, st.lines[j].time, a, st.lines[j].row.length, ac, st.lines[j].n, st.lines[j].cause, st.lines[j].why, ?_, fun w G2 cx => ⟨_, _, _, _, _, _, _, _, _, _, rfl, LedO q st ++ R, (fun M w => Φ M w ∧ Sl M w a st.lines[j].row), stR a, (cx.left.re (by simp)).weak fun M w h => ⟨h.1.1, ?_⟩, h1 j hj a ac rfl m1 m2 (stR a)⟩⟩
  · have := src_at (i := 0) src2 rfl (G := (LedO q st ++ (R ++ G)) ++ G2) cx hec
    rw [Nat.zero_mul, Nat.add_zero] at this
    exact this
  · have := src_sl src2 (i := 0) (by simp) (by simpa using hec) h
    simpa using this

set_option maxHeartbeats 1000000 in
theorem Batch_to [Stable Φ] {no : Int} (hq : LedQ q st) (hs : LedS st) (hb : BatsOk st) [hF : Has Φ (LF q st)] (cx : Ctx W w ((LedO q st ++ R) ++ G) Φ) {K : Option Addr → Nat → Nat → Int → Bool → List Own → PW → Prop}
    (h0 : (∀ b ∈ st.bats, b.no ≠ no) → K none 0 0 0 false (LedO q st ++ R) Φ)
    (h1 : ∀ (j : Nat) (hj : j < st.bats.length) L p c cs, st.bats[j].no = no → (∀ i (hi : i < j), (st.bats[i]'(by omega)).no ≠ no) → L = (st.lines.drop (begP st.bats j)).take (st.bats[j].stop - begP st.bats j) → L.length ≤ c → c ≤ maxLen → There p L.length → Rows7 cs L → Stable (fun M w => Φ M w ∧ SrcF p L cs M w) → K p L.length c st.bats[j].mark true (LedO q st ++ R) (fun M w => Φ M w ∧ SrcF p L cs M w)) :
    Calls Tryd.prog F.ledger_Ledger_Batch #[led q, .int .i64 no] w fun e w' => ∃ a b c d f, e = .returned (.tuple #[.slice a b c, .int .i64 d, .bool f]) ∧ ∃ R' Φ', Stable Φ' ∧ Ctx W w' (R' ++ G) Φ' ∧ K a b c d f R' Φ' := by
  have hsl := hs.lines
  have hsb := hs.bats
  refine (Bledger_Ledger_Batch_run q.lb 0 no (R := (LedO q st ++ R) ++ G) (J := fun v w' => ∃ a b c d f, v = .tuple #[.slice a b c, .int .i64 d, .bool f] ∧ ∃ R' Φ', Stable Φ' ∧ Ctx W w' (R' ++ G) Φ' ∧ K a b c d f R' Φ') cx ?_).mono fun e w' ⟨v, he, a, b, c, d, f, hv, rest⟩ => ⟨a, b, c, d, f, by rw [he, hv], rest⟩
  clear cx
  have re1 : ∀ {w : World} {G2 : List Own} {Ψ : PW}, Ctx W w (((LedO q st ++ R) ++ G) ++ G2) Ψ → Ctx W w ((LedO q st ++ (R ++ G)) ++ G2) Ψ := fun cx => cx.re (by simp)
  refine fun w G2 cx => ⟨_, _, _, led_cell (i := 1) (re1 cx) rfl, ?_⟩
  clear cx
  refine exI_mk (fun sI iI R' Φ' k => ∃ i : Nat, iI = i ∧ i ≤ st.bats.length ∧ sI = (begP st.bats i : Nat) ∧ (∀ j (hj : j < i) (hjl : j < st.bats.length), st.bats[j].no ≠ no) ∧ R' = LedO q st ++ (R ++ G) ∧ Φ' = Φ ∧ k = st.bats.length - i) ⟨⟨_, _, _, inferInstance, fun w G cx => re1 cx, 0, rfl, Nat.zero_le _, rfl, fun j hj => by omega, rfl, rfl, rfl⟩, ?_⟩
  rintro sI iI R1 Φ1 k _ ⟨i, rfl, hi, rfl, hne, rfl, rfl, rfl⟩
  refine Br.intro (fun hlt => ?_) (fun hge => fun w G2 cx => ⟨_, _, _, _, _, rfl, LedO q st ++ R, Φ1, inferInstance, cx.left.re (by simp), h0 fun b hb => ?_⟩)
  · have hlt : i < st.bats.length := by have := of_decide_eq_true hlt; omega
    obtain ⟨g, hg⟩ := hq.bpt (by omega)
    have hbe := hb.1 i hlt
    have hstp := hs.stop _ (List.getElem_mem hlt)
    have hlc := hq.lcap.1
    refine ⟨by omega, ptrK_intro g 0 hg fun w G2 cx => ⟨st.bats[i].no, st.bats[i].mark, (st.bats[i].stop : Int), by rw [Int.toNat_natCast]; exact led_bat cx hg hlt, fun _ => ?_⟩⟩
    clear cx
    refine Br.intro (fun h2 => ?_) (fun h2 => ⟨by unfold I64; omega, _, Φ1, st.bats.length - (i + 1), inferInstance, fun w G cx => cx, ⟨i + 1, rfl, hlt, by rw [begP_succ hlt], fun j hj hjl => ?_, rfl, rfl, rfl⟩, by omega⟩)
    · have h2 := of_decide_eq_true h2
      obtain ⟨L, hL⟩ : ∃ L, (st.lines.drop (begP st.bats i)).take (st.bats[i].stop - begP st.bats i) = L := ⟨_, rfl⟩
      have hLn : L.length = st.bats[i].stop - begP st.bats i := by rw [← hL, List.length_take, List.length_drop]; omega
      have hsrc := src_led (Φ := Φ1) hq hF.go (begP st.bats i) (st.bats[i].stop - begP st.bats i) (by omega)
      rw [hL] at hsrc
      refine ⟨LedO q st ++ (R ++ G), Φ1, inferInstance, fun w G cx => cx, q.lp, st.lines.length, q.lc, fun w G2 cx => ⟨_, _, _, led_cell (i := 0) cx rfl, rfl⟩, by omega, fun w G2 cx => ?_⟩
      rw [Int.toNat_natCast, Int.toNat_natCast, ← hLn]
      refine (Cloned_new (cap := q.lc - begP st.bats i) (S := (LedO q st ++ (R ++ G)) ++ G2) hsrc.app.app (by omega) (fun x hx => hs.rows x (by rw [← hL] at hx; exact List.mem_of_mem_drop (List.mem_of_mem_take hx))) cx).mono fun e w' ⟨p', c', cs', he, cx⟩ => ?_
      obtain ⟨cx1, hs1, _, e1, e2⟩ := Ctx.freeze (α := LineD) cx cx.phi.2
      obtain ⟨cs2, cx2⟩ := srcOf cx1 hs1
      exact ⟨p', L.length, c', he, LedO q st ++ (R ++ G), (fun M w => Φ1 M w ∧ SrcF p' L cs2 M w), instStableAnd Φ1 (fun M w => SrcF p' L cs2 M w), cx2.weak fun M w h => ⟨h.1.1, h.2⟩, fun w G cx => cx.fst, fun w G2 cx => ⟨_, _, _, _, _, rfl, LedO q st ++ R, (fun M w => Φ1 M w ∧ SrcF p' L cs2 M w), instStableAnd Φ1 (fun M w => SrcF p' L cs2 M w), cx.left.re (by simp), h1 i hlt L p' c' cs2 h2 (fun j hj => hne j hj _) hL.symm e1 e2 hs1.there (rows7 cx2.phi.2.2) (instStableAnd Φ1 (fun M w => SrcF p' L cs2 M w))⟩⟩
    · rcases Nat.lt_or_ge j i with h3 | h3
      · exact hne j h3 hjl
      · have : j = i := by omega
        subst this
        exact of_decide_eq_false h2
  · have hge : i = st.bats.length := by have := of_decide_eq_false hge; omega
    obtain ⟨j, hj, rfl⟩ := List.getElem_of_mem hb
    exact hne j (by omega) hj
end
end Go.Proofs.YtbkpfhhhbhaecaaDoor
end

/-
  What holds of a ledger's lines and batches; made, walked.
-/
section
set_option linter.unusedVariables false
set_option linter.unusedSimpArgs false
namespace Go.Proofs.YtbkpfhhhbhaecaaDoor
open Go.Vc


/-! ### plain -/
structure Inv2 (st : LedD) : Prop where
  num : ∀ i (h : i < st.lines.length), st.lines[i].no = i + 1
  asc : st.bats.Pairwise fun a b => a.no < b.no
  full : begP st.bats st.bats.length = st.lines.length
  seg : ∀ i (h : i < st.lines.length), ∃ j, ∃ hj : j < st.bats.length, begP st.bats j ≤ i ∧ i < st.bats[j].stop ∧ st.bats[j].no = st.lines[i].batch
  cause : ∀ x ∈ st.lines, x.cause = 0 ∨ x.cause = 1 ∨ x.cause = 2

theorem last_max {l : List BatD} (h : l.Pairwise fun a b => a.no < b.no) (d : BatD) : ∀ b ∈ l, b.no ≤ (l.getLast?.getD d).no := fun b hb => by
  have hl : 0 < l.length := List.length_pos_of_mem hb
  rw [List.getLast?_eq_getElem?, List.getElem?_eq_getElem (by omega)]
  show b.no ≤ l[l.length - 1].no
  obtain ⟨i, hi, rfl⟩ := List.getElem_of_mem hb
  rcases Nat.lt_or_ge i (l.length - 1) with h1 | h1
  · have := List.pairwise_iff_getElem.1 h i (l.length - 1) hi (by omega) h1
    omega
  · have : i = l.length - 1 := by omega
    subst this
    exact Int.le_refl _
theorem begP_app {l : List BatD} {x : BatD} {i : Nat} (h : i ≤ l.length) : begP (l ++ [x]) i = begP l i := by
  unfold begP
  by_cases h0 : i = 0
  · rw [if_pos h0, if_pos h0]
  · rw [if_neg h0, if_neg h0, List.getElem?_append_left (by omega)]

theorem Inv2.start : Inv2 ⟨[], []⟩ where
  num := fun i h => by simp at h
  asc := List.Pairwise.nil
  full := rfl
  seg := fun i h => by simp at h
  cause := fun x hx => by simp at hx
theorem Inv2.app {st : LedD} {no mark : Int} {L : List LineD} (h : Inv2 st) (ac : AccB st no mark L) : Inv2 (appP st no mark L) where
  num := fun i hi => by
    have hi' : i < (st.lines ++ L).length := hi
    show (st.lines ++ L)[i].no = i + 1
    rw [List.length_append] at hi'
    by_cases hlt : i < st.lines.length
    · rw [List.getElem_append_left hlt]; exact h.num i hlt
    · rw [List.getElem_append_right (by omega)]
      have := (ac.at (i - st.lines.length) (by omega)).gno
      rw [this]; omega
  asc := by
    show (st.bats ++ [_]).Pairwise _
    refine List.pairwise_append.2 ⟨h.asc, List.pairwise_singleton _ _, fun a ha b hb => ?_⟩
    rw [List.mem_singleton.1 hb]
    have h1 := last_max h.asc ⟨0, -1, 0⟩ a ha
    have h2 := ac.gno
    unfold lastP at h2
    show a.no < no
    omega
  full := by
    show begP (st.bats ++ [(⟨no, mark, (st.lines ++ L).length⟩ : BatD)]) (st.bats ++ [_]).length = (st.lines ++ L).length
    have e : (st.bats ++ [(⟨no, mark, (st.lines ++ L).length⟩ : BatD)]).length = st.bats.length + 1 := by simp
    rw [e, begP_succ (by rw [e]; omega), List.getElem_append_right (Nat.le_refl _)]
    simp
  seg := fun i hi => by
    have hi' : i < (st.lines ++ L).length := hi
    show ∃ j, ∃ hj : j < (st.bats ++ [(⟨no, mark, (st.lines ++ L).length⟩ : BatD)]).length, begP (st.bats ++ [(⟨no, mark, (st.lines ++ L).length⟩ : BatD)]) j ≤ i ∧ i < (st.bats ++ [(⟨no, mark, (st.lines ++ L).length⟩ : BatD)])[j].stop ∧ (st.bats ++ [(⟨no, mark, (st.lines ++ L).length⟩ : BatD)])[j].no = (st.lines ++ L)[i].batch
    by_cases hlt : i < st.lines.length
    · obtain ⟨j, hj, g1, g2, g3⟩ := h.seg i hlt
      refine ⟨j, by rw [List.length_append]; omega, ?_, ?_, ?_⟩
      · rw [begP_app (by omega)]; exact g1
      · rw [List.getElem_append_left hj]; exact g2
      · rw [List.getElem_append_left hj, List.getElem_append_left hlt]; exact g3
    · rw [List.length_append] at hi'
      refine ⟨st.bats.length, by rw [List.length_append]; simp, ?_, ?_, ?_⟩
      · rw [begP_app (Nat.le_refl _), h.full]; omega
      · rw [List.getElem_append_right (Nat.le_refl _)]
        simp only [Nat.sub_self, List.getElem_cons_zero]
        rw [List.length_append]; omega
      · rw [List.getElem_append_right (Nat.le_refl _), List.getElem_append_right (by omega)]
        simp only [Nat.sub_self, List.getElem_cons_zero]
        exact (ac.at (i - st.lines.length) (by omega)).batch.symm
  cause := fun x hx => by
    rcases List.mem_append.1 hx with hx | hx
    · exact h.cause x hx
    · obtain ⟨_, g⟩ := ac.mem hx
      exact caused_cause g.caused

theorem caus_sum {l : List LineD} (h : ∀ x ∈ l, x.cause = 0 ∨ x.cause = 1 ∨ x.cause = 2) : caus l 0 + caus l 1 + caus l 2 = l.length := by
  induction l with
  | nil => rfl
  | cons x l ih =>
    have ih := ih fun y hy => h y (by simp [hy])
    have e : ∀ k, caus (x :: l) k = caus l k + if x.cause = k then 1 else 0 := fun k => by
      unfold caus
      rw [List.countP_cons]
      split <;> rename_i h2
      · rw [if_pos (by simpa using h2)]; rfl
      · rw [if_neg (by simpa using h2)]; rfl
    rw [e, e, e, List.length_cons]
    rcases h x (by simp) with h1 | h1 | h1 <;> rw [h1] <;> simp <;> omega

/-- a ledger after i pushes -/
structure LedI (i : Nat) (st : LedD) : Prop where
  s : LedS st
  v : Inv st
  w : Inv2 st
  n1 : st.lines.length ≤ 12 * i
  n2 : st.bats.length ≤ i
def okPush (x : PushD) : Prop := x.l.length ≤ 12 ∧ ∀ y ∈ x.l, y.row.length ≤ 13 ∧ ∀ v ∈ y.row, v.text.size ≤ 300
def stepP (st : LedD) (x : PushD) : LedD := if checkP st (fitOf st x).batch (fitOf st x).mark (fitOf st x).l = 0 then appP st (fitOf st x).batch (fitOf st x).mark (fitOf st x).l else st
def madeP (l : List PushD) : LedD := l.foldl stepP ⟨[], []⟩
theorem madeP_step {l : List PushD} {i : Nat} (h : i < l.length) : madeP (l.take (i + 1)) = stepP (madeP (l.take i)) l[i] := by
  unfold madeP
  rw [List.take_succ_eq_append_getElem h, List.foldl_append]; rfl

theorem LedI.start : LedI 0 ⟨[], []⟩ := ⟨new_s, Inv.start, Inv2.start, by simp, by simp⟩
theorem LedI.more {i : Nat} {st : LedD} (h : LedI i st) : LedI (i + 1) st := ⟨h.s, h.v, h.w, by have := h.n1; omega, by have := h.n2; omega⟩
theorem fit_ok {st : LedD} {x : PushD} (h : okPush x) : okPush (fitOf st x) := by
  refine ⟨by have := fitP_len x (lastP st).no (lastP st).mark ((st.lines.length : Int) + 1); have := h.1; show (fitP _ _ _ _).l.length ≤ 12; omega, fun y hy => ?_⟩
  obtain ⟨z, hz, e⟩ := fitP_row _ _ _ _ y hy
  rw [e]; exact h.2 z hz
theorem fit_i64 {st : LedD} {x : PushD} (h : I64 x.batch) : I64 (fitOf st x).batch := by
  unfold fitOf fitP
  split
  · exact w64_in _
  · exact h
theorem LedI.app {i : Nat} {st : LedD} (h : LedI i st) (hi : i ≤ 1000) {X : PushD} (hx : okPush X) (h64 : I64 X.batch) (hz : checkP st X.batch X.mark X.l = 0) (hf : RowsFit X.l) : LedI (i + 1) (appP st X.batch X.mark X.l) := by
  have ac := check_ok hz
  have h1 := h.n1
  have h2 := h.n2
  have h3 := hx.1
  refine ⟨app_s h.s (fun y hy => (hx.2 y hy).1) (fun y hy => (hx.2 y hy).2) (by rw [List.length_append]; omega) (by omega), h.v.app h.s ac hf h64, h.w.app ac, ?_, ?_⟩
  · show (st.lines ++ X.l).length ≤ _
    rw [List.length_append]; omega
  · show (st.bats ++ [_]).length ≤ _
    rw [List.length_append]; exact Nat.add_le_add_right h2 1

section
variable {Φ : PW} {q : LP} {st : LedD} {W w : World} {R S G : List Own} {p r : Option Addr} {cap cap2 : Nat}

/-- a push is fitted and appended: the ledger of the next step -/
theorem push_next [Stable Φ] [hT : Has Φ TabI] {i : Nat} (hq : LedQ q st) (hi : LedI i st) (hi2 : i ≤ 1000) {x : PushD} (hx : okPush x) (h64 : I64 x.batch) {px : Option Addr} {cx0 : Nat} [hL : Has Φ (fun M w => Sl M w px (fitOf st x).l)] [hF : Has Φ (LF q st)]
    (c : Ctx W w ((LedO q st ++ R) ++ G) Φ) {K : Int → List Own → PW → Prop}
    (h : ∀ n q', q'.lb = q.lb → LedQ q' (stepP st x) → LedI (i + 1) (stepP st x) → Stable (fun M w => Φ M w ∧ LF q' (stepP st x) M w) → K n (LedO q' (stepP st x) ++ R) (fun M w => Φ M w ∧ LF q' (stepP st x) M w)) :
    Calls Tryd.prog F.ledger_Ledger_Append #[led q, .int .i64 (fitOf st x).batch, .int .i64 (fitOf st x).mark, .slice px (fitOf st x).l.length cx0] w fun e w' => ∃ n, e = .returned (.int .i64 n) ∧ ∃ R' Φ', Stable Φ' ∧ Ctx W w' (R' ++ G) Φ' ∧ K n R' Φ' := by
  have hX := fit_ok (st := st) hx
  have h641 := fit_i64 (st := st) h64
  unfold stepP at h
  refine (Append_to (L := (fitOf st x).l) (no := (fitOf st x).batch) (mark := (fitOf st x).mark) hq hi.s hi.v.cnt (by have := hX.1; omega) (fun y hy => by have := (hX.2 y hy).1; omega) (fun y hy v hv => by have := (hX.2 y hy).2 v hv; omega) c (K := fun n R' Φ' => ∃ Φ2, Stable Φ2 ∧ (∀ M w, Φ' M w → Φ2 M w) ∧ K n R' Φ2) (fun hz => ?_) fun q' hz hf hlb hq' st3 => ?_).mono fun e w' ⟨n, he, R', Φ', hst, cx, Φ2, hst2, hw, hK⟩ => ⟨n, he, R', Φ2, hst2, cx.weak hw, hK⟩
  · have h := h (checkP st (fitOf st x).batch (fitOf st x).mark (fitOf st x).l) q rfl
    rw [if_neg hz] at h
    exact ⟨_, instStableAnd Φ (fun M w => LF q st M w), fun M w hh => ⟨hh, hF.go M w hh⟩, h hq hi.more (instStableAnd Φ (fun M w => LF q st M w))⟩
  · have h := h 0 q' hlb
    rw [if_pos hz] at h
    exact ⟨_, st3, fun M w hh => hh, h hq' (hi.app hi2 hX h641 hz hf) st3⟩

set_option maxHeartbeats 4000000 in
theorem made_to [Stable Φ] [hT : Has Φ TabI] {l : List PushD} {g o : Nat} {cs : List (List Value)} (hp : 0 < l.length → p = some ⟨g, o, none⟩) (hP : ∀ M w, Φ M w → Pin g o cs l M w) (hlen : l.length ≤ 1000) (hok : ∀ x ∈ l, okPush x) (c : Ctx W w (R ++ G) Φ) {K : Option Addr → List Own → PW → Prop}
    (hk : ∀ q, LedQ q (madeP l) → LedI l.length (madeP l) → Stable (fun M w => Φ M w ∧ LF q (madeP l) M w) → K (some ⟨q.lb, 0, none⟩) (LedO q (madeP l) ++ R) (fun M w => Φ M w ∧ LF q (madeP l) M w)) :
    Calls Tryd.prog F.erratalaw41_made #[.slice p l.length cap] w fun e w' => ∃ p, e = .returned (.pointer p) ∧ ∃ R' Φ', Stable Φ' ∧ Ctx W w' (R' ++ G) Φ' ∧ K p R' Φ' := by
  have hpc : ∀ j (hj : j < l.length), ∃ p c, cs.getD j [] = l[j].cells p c ∧ l[j].l.length ≤ c ∧ c ≤ maxLen ∧ I64 l[j].batch ∧ I64 l[j].mark := fun j hj => pin_push (hP _ _ c.phi) hj
  refine (Berratalaw41_made_run p l.length cap (R := R ++ G) (J := fun v w' => ∃ p, v = .pointer p ∧ ∃ R' Φ', Stable Φ' ∧ Ctx W w' (R' ++ G) Φ' ∧ K p R' Φ') c ?_).mono fun e w' ⟨v, he, p, hv, rest⟩ => ⟨p, by rw [he, hv], rest⟩
  clear c
  refine fun w G2 cx => New_to cx fun q0 hq0 st0 => ?_
  clear cx
  obtain ⟨lb, hlb⟩ : ∃ lb, q0.lb = lb := ⟨_, rfl⟩
  refine exI_mk (fun iI R' Φ' k => ∃ (i : Nat) (q : LP), iI = i ∧ i ≤ l.length ∧ q.lb = lb ∧ LedQ q (madeP (l.take i)) ∧ LedI i (madeP (l.take i)) ∧ R' = LedO q (madeP (l.take i)) ++ (R ++ G) ∧ Φ' = (fun M w => Φ M w ∧ LF q (madeP (l.take i)) M w) ∧ k = l.length - i) ⟨⟨_, _, _, st0, fun w G cx => cx, 0, q0, rfl, Nat.zero_le _, hlb, hq0, LedI.start, rfl, rfl, rfl⟩, ?_⟩
  clear st0 hq0
  rw [hlb]
  rintro iI R1 Φ1 k _ ⟨i, q, rfl, hi, hlb2, hq, hv, rfl, rfl, rfl⟩
  refine fun w G2 cx => ?_
  clear cx
  refine Br.intro (fun hlt0 => ?_) (fun hge => fun w G2 cx => ?_)
  · have hlt : i < l.length := by
      rw [Bool.and_eq_true] at hlt0
      have := of_decide_eq_true hlt0.1; omega
    clear hlt0
    obtain ⟨r, rc, he, k1, k2, k3, k4⟩ := hpc i hlt
    have hx := hok l[i] (List.getElem_mem _)
    have hstp := madeP_step hlt
    obtain ⟨st, hste⟩ : ∃ st, madeP (l.take i) = st := ⟨_, rfl⟩
    rw [hste] at hq hv hstp ⊢
    have hst : Stable (fun M w => Φ M w ∧ LF q st M w) := instStableAnd Φ (fun M w => LF q st M w)
    subst hlb2
    have tree : FitTree p l.length (i : Int) (some ⟨q.lb, 0, none⟩) W (LedO q st ++ (R ++ G)) (fun M w => Φ M w ∧ LF q st M w) (fun kx z R' Φ' => ∃ p' c', z = 0 ∧ R' = LedO q st ++ (.blk kx ((fitOf st l[i]).cells p' c') 60 :: (R ++ G)) ∧ Φ' = (fun M w => (Φ M w ∧ LF q st M w) ∧ Sl M w p' (fitOf st l[i]).l)) :=
      fit_tree hlt (hp (by omega)) (fun M w h => hP M w h.1) he k1 k2 (by have := hx.1; omega) hq hv.s hv.v.mark fun kb p' c' m1 m2 m3 m4 => ⟨p', c', rfl, rfl, rfl⟩
    refine exI_mk (fun kx z R' Φ' => ∃ p' c', z = 0 ∧ R' = LedO q st ++ (.blk kx ((fitOf st l[i]).cells p' c') 60 :: (R ++ G)) ∧ Φ' = (fun M w => (Φ M w ∧ LF q st M w) ∧ Sl M w p' (fitOf st l[i]).l)) ⟨tree, ?_⟩
    clear tree
    rintro kx z R2 Φ2 st2 ⟨p2, c2, rfl, rfl, rfl⟩
    have cb : ∀ {Ψ : PW} {w : World} {G3 : List Own} {j : Nat} {v : Value}, ((fitOf st l[i]).cells p2 c2)[j]? = some v → Ctx W w ((LedO q st ++ (.blk kx ((fitOf st l[i]).cells p2 c2) 60 :: (R ++ G))) ++ G3) Ψ → w.cell? ⟨kx, 0 + j, none⟩ = some v := fun hv cx => by
      rw [Nat.zero_add]; exact cx.get 4 rfl hv
    refine fun w G cx => ⟨_, cb (j := 0) rfl cx, fun w G cx => ⟨_, cb (j := 1) rfl cx, fun w G cx => ⟨_, _, _, cb (j := 2) rfl cx, fun w G cx => ?_⟩⟩⟩
    refine push_next (x := l[i]) (i := i) hq hv (by omega) hx k3 cx fun n q' hlb3 hq' hv' st3 => ?_
    clear cx
    rw [← hstp] at hq' hv' st3 ⊢
    exact ⟨by unfold I64; omega, LedO q' (madeP (l.take (i + 1))) ++ (R ++ _), _, l.length - (i + 1), @instStableAnd Φ (fun M w => LF q' (madeP (l.take (i + 1))) M w) _ (instStableElems q'.cs (madeP (l.take (i + 1))).lines), fun w G cx => drop_mid cx.has, ⟨i + 1, q', by omega, hlt, hlb3, hq', hv', rfl, rfl, rfl⟩, by omega⟩
  · have hge : i = l.length := by
      rw [Bool.and_eq_false_iff] at hge
      rcases hge with h | h
      · have := of_decide_eq_false h; omega
      · cases h
    subst hge
    rw [List.take_length] at cx hq hv
    subst hlb2
    exact ⟨_, rfl, LedO q (madeP l) ++ R, _, instStableAnd Φ (fun M w => LF q (madeP l) M w), (cx.left).re (by simp), hk q hq hv (instStableAnd Φ (fun M w => LF q (madeP l) M w))⟩
end
end Go.Proofs.YtbkpfhhhbhaecaaDoor
end

/-
  The conditions of the walks of some functions, one formula each; 'B<f>_run' says that they suffice. The formulas are printed by a program; the kernel compares them with the functions' code.
-/
section
namespace Go.Proofs.YtbkpfhhhbhaecaaDoor
set_option linter.unusedVariables false
set_option linter.unusedSimpArgs false
set_option maxRecDepth 100000
open Go.Vc

/-- erratalaw41.LedgerHistory -/
-- loop at region 28: 19 in, 20 k; blocks 
-- loop at region 22: 13 i; blocks 
-- loop at region 14: 10 n, 12 i; blocks 
-- cut 11: 1 time, 2 row; blocks 
-- known blocks: 14 x
def Cerratalaw41_LedgerHistory (lP : Option Addr) (lN lC : Nat) (time : Int) (rowP : Option Addr) (rowN rowC : Nat) (W : World) (R : List Own) (Φ : PW) (J : Value → World → Prop) : Prop :=
  ∀ (w0 : World) (R1 : List Own), Ctx W w0 (R ++ R1) Φ → Calls Tryd.prog F.erratalaw41_small #[] w0 fun (e2 : Ending) (w3 : World) => ∃ (c4 : Bool), e2 = Ending.returned (Value.bool c4) ∧ ∃
  (R5 : List Own), ∃ (Φ6 : PW), Stable Φ6 ∧ Ctx W w3 (R5 ++ R1) Φ6 ∧ ∀ (w7 : World) (R8 : List Own), Ctx W w7 (R5 ++ R8) Φ6 → Calls Tryd.prog F.erratalaw41_few #[Value.slice lP lN lC,
  Value.int IntKind.i64 25] w7 fun (e9 : Ending) (w10 : World) => ∃ (c11 : Bool), e9 = Ending.returned (Value.bool c11) ∧ ∃ (R12 : List Own), ∃ (Φ13 : PW), Stable Φ13 ∧ Ctx W w10 (R12 ++ R8)
  Φ13 ∧ Br (!c11) (∀ (w14 : World) (R15 : List Own), Ctx W w14 (R12 ++ R15) Φ13 → J (Value.bool c4) w14) (∀ (w16 : World) (R17 : List Own), Ctx W w16 (R12 ++ R17) Φ13 → Calls Tryd.prog
  F.errataref03_Short #[Value.slice rowP rowN rowC, Value.int IntKind.i64 13] w16 fun (e18 : Ending) (w19 : World) => ∃ (c20 : Bool), e18 = Ending.returned (Value.bool c20) ∧ ∃ (R21 : List
  Own), ∃ (Φ22 : PW), Stable Φ22 ∧ Ctx W w19 (R21 ++ R17) Φ22 ∧ Br (!c20) (∀ (w23 : World) (R24 : List Own), Ctx W w23 (R21 ++ R24) Φ22 → J (Value.bool c4) w23) (∀ (w25 : World) (R26 : List
  Own), Ctx W w25 (R21 ++ R26) Φ22 → Calls Tryd.prog F.value_RightRow #[Value.slice rowP rowN rowC] w25 fun (e27 : Ending) (w28 : World) => ∃ (c29 : Bool), e27 = Ending.returned (Value.bool
  c29) ∧ ∃ (R30 : List Own), ∃ (Φ31 : PW), Stable Φ31 ∧ Ctx W w28 (R30 ++ R26) Φ31 ∧ Br (!c29) (∀ (w32 : World) (R33 : List Own), Ctx W w32 (R30 ++ R33) Φ31 → J (Value.bool c4) w32) (∀ (w34 :
  World) (R35 : List Own), Ctx W w34 (R30 ++ R35) Φ31 → Calls Tryd.prog F.erratalaw41_made #[Value.slice lP lN lC] w34 fun (e36 : Ending) (w37 : World) => ∃ (p38 : Option Addr), e36 =
  Ending.returned (Value.pointer p38) ∧ ∃ (R39 : List Own), ∃ (Φ40 : PW), Stable Φ40 ∧ Ctx W w37 (R39 ++ R35) Φ40 ∧ Br p38.isNone (∀ (w41 : World) (R42 : List Own), Ctx W w41 (R39 ++ R42) Φ40
  → J (Value.bool false) w41) (∀ (w43 : World) (R44 : List Own), Ctx W w43 (R39 ++ R44) Φ40 → Calls Tryd.prog F.ledger_Ledger_Lines #[Value.pointer p38] w43 fun (e45 : Ending) (w46 : World)
  => ∃ (p47 : Option Addr), ∃ (k48 : Nat), ∃ (k49 : Nat), e45 = Ending.returned (Value.slice p47 k48 k49) ∧ ∃ (R50 : List Own), ∃ (Φ51 : PW), Stable Φ51 ∧ Ctx W w46 (R50 ++ R44) Φ51 ∧ exI fun
  (I52 : Int → Option Addr → Nat → Nat → List Own → PW → Prop) => (∀ (w53 : World) (R54 : List Own), Ctx W w53 (R50 ++ R54) Φ51 → ∃ (n55 : Int), (decide (0 < (↑k48 : Int)) = true → ∀ (w56 :
  World), Sem.run Tryd.prog (binOp BinOp.and 3 (Value.int IntKind.i64 time) (Value.int IntKind.i64 1)) w56 = Result.ok (Value.int IntKind.i64 n55) w56) ∧ Br (decide (0 < (↑k48 : Int)) &&
  decide (n55 = 1)) (∀ (w57 : World) (R58 : List Own), Ctx W w57 (R50 ++ R58) Φ51 → Calls Tryd.prog F.erratalaw41_mod #[Value.int IntKind.i64 time, Value.int IntKind.i64 (↑k48 : Int)] w57 fun
  (e59 : Ending) (w60 : World) => ∃ (n61 : Int), e59 = Ending.returned (Value.int IntKind.i64 n61) ∧ ∃ (R62 : List Own), ∃ (Φ63 : PW), Stable Φ63 ∧ Ctx W w60 (R62 ++ R58) Φ63 ∧ (0 ≤ n61 ∧ n61
  < (↑k48 : Int)) ∧ ptrK none p47 fun (k64 k65 : Nat) => ∀ (w66 : World) (R67 : List Own), Ctx W w66 (R62 ++ R67) Φ63 → ∃ (n68 : Int), w66.cell? (Addr.mk k64 (k65 + n61.toNat * 7 + 2) none) =
  some (Value.int IntKind.i64 n68) ∧ ∀ (w69 : World) (R70 : List Own), Ctx W w69 (R62 ++ R70) Φ63 → Calls Tryd.prog F.erratalaw41_mod #[Value.int IntKind.i64 n68, Value.int IntKind.i64 (↑k48
  : Int)] w69 fun (e71 : Ending) (w72 : World) => ∃ (n73 : Int), e71 = Ending.returned (Value.int IntKind.i64 n73) ∧ ∃ (R74 : List Own), ∃ (Φ75 : PW), Stable Φ75 ∧ Ctx W w72 (R74 ++ R70) Φ75
  ∧ (0 ≤ n73 ∧ n73 < (↑k48 : Int)) ∧ ptrK none p47 fun (k76 k77 : Nat) => ∀ (w78 : World) (R79 : List Own), Ctx W w78 (R74 ++ R79) Φ75 → ∃ (p80 : Option Addr), ∃ (k81 : Nat), ∃ (k82 : Nat),
  w78.cell? (Addr.mk k76 (k77 + n73.toNat * 7 + 3) none) = some (Value.slice p80 k81 k82) ∧ ∃ (R83 : List Own), ∃ (Φ84 : PW), Stable Φ84 ∧ (∀ (w85 : World) (R86 : List Own), Ctx W w85 (R74 ++
  R86) Φ75 → Ctx W w85 (R83 ++ R86) Φ84) ∧ I52 n68 p80 k81 k82 R83 Φ84) (∃ (R87 : List Own), ∃ (Φ88 : PW), Stable Φ88 ∧ (∀ (w89 : World) (R90 : List Own), Ctx W w89 (R50 ++ R90) Φ51 → Ctx W
  w89 (R87 ++ R90) Φ88) ∧ I52 time rowP rowN rowC R87 Φ88)) ∧ ∀ (n91 : Int) (p92 : Option Addr) (k93 k94 : Nat) (R95 : List Own) (I96 : List Nat → World → Prop), Stable I96 → I52 n91 p92 k93
  k94 R95 I96 → ∀ (w97 : World) (R98 : List Own), Ctx W w97 (R95 ++ R98) I96 → Calls Tryd.prog F.ledger_Ledger_History #[Value.pointer p38, Value.int IntKind.i64 n91, Value.slice p92 k93 k94]
  w97 fun (e99 : Ending) (w100 : World) => ∃ (p101 : Option Addr), ∃ (k102 : Nat), ∃ (k103 : Nat), e99 = Ending.returned (Value.slice p101 k102 k103) ∧ ∃ (R104 : List Own), ∃ (Φ105 : PW),
  Stable Φ105 ∧ Ctx W w100 (R104 ++ R98) Φ105 ∧ exI fun (I106 : Int → Int → List Own → PW → Nat → Prop) => (∃ (R107 : List Own), ∃ (Φ108 : PW), ∃ (k109 : Nat), Stable Φ108 ∧ (∀ (w110 : World)
  (R111 : List Own), Ctx W w110 (R104 ++ R111) Φ105 → Ctx W w110 (R107 ++ R111) Φ108) ∧ I106 0 0 R107 Φ108 k109) ∧ ∀ (n112 n113 : Int) (R114 : List Own) (I115 : List Nat → World → Prop) (k116
  : Nat), Stable I115 → I106 n112 n113 R114 I115 k116 → Br (decide (n113 < (↑k102 : Int))) ((0 ≤ n113 ∧ n113 < (↑k102 : Int)) ∧ ptrK none p101 fun (k117 k118 : Nat) => ∀ (w119 : World) (R120
  : List Own), Ctx W w119 (R114 ++ R120) I115 → ∃ (n121 : Int), w119.cell? (Addr.mk k117 (k118 + n113.toNat * 7 + 4) none) = some (Value.int IntKind.i64 n121) ∧ (0 ≤ n113 ∧ n113 < (↑k102 :
  Int)) ∧ ptrK none p101 fun (k122 k123 : Nat) => ∀ (w124 : World) (R125 : List Own), Ctx W w124 (R114 ++ R125) I115 → ∃ (n126 : Int), w124.cell? (Addr.mk k122 (k123 + n113.toNat * 7 + 2)
  none) = some (Value.int IntKind.i64 n126) ∧ Br (decide (n126 ≠ n91)) (∀ (w127 : World) (R128 : List Own), Ctx W w127 (R114 ++ R128) I115 → J (Value.bool false) w127) ((0 ≤ n113 ∧ n113 <
  (↑k102 : Int)) ∧ ptrK none p101 fun (k129 k130 : Nat) => ∀ (w131 : World) (R132 : List Own), Ctx W w131 (R114 ++ R132) I115 → ∃ (p133 : Option Addr), ∃ (k134 : Nat), ∃ (k135 : Nat),
  w131.cell? (Addr.mk k129 (k130 + n113.toNat * 7 + 3) none) = some (Value.slice p133 k134 k135) ∧ ∀ (w136 : World) (R137 : List Own), Ctx W w136 (R114 ++ R137) I115 → Calls Tryd.prog
  F.errataref03_Same #[Value.slice p133 k134 k135, Value.slice p92 k93 k94] w136 fun (e138 : Ending) (w139 : World) => ∃ (c140 : Bool), e138 = Ending.returned (Value.bool c140) ∧ ∃ (R141 :
  List Own), ∃ (Φ142 : PW), Stable Φ142 ∧ Ctx W w139 (R141 ++ R137) Φ142 ∧ Br (!c140) (∀ (w143 : World) (R144 : List Own), Ctx W w143 (R141 ++ R144) Φ142 → J (Value.bool false) w143) (I64
  (n113 + 1) ∧ ∃ (R145 : List Own), ∃ (Φ146 : PW), ∃ (k147 : Nat), Stable Φ146 ∧ (∀ (w148 : World) (R149 : List Own), Ctx W w148 (R141 ++ R149) Φ142 → Ctx W w148 (R145 ++ R149) Φ146) ∧ I106
  (IntKind.i64.wrap (n112 + n121)) (n113 + 1) R145 Φ146 k147 ∧ k147 < k116))) (∀ (w150 : World) (R151 : List Own), Ctx W w150 (R114 ++ R151) I115 → Calls Tryd.prog F.ledger_Ledger_Count
  #[Value.pointer p38, Value.int IntKind.i64 n91, Value.slice p92 k93 k94] w150 fun (e152 : Ending) (w153 : World) => ∃ (n154 : Int), e152 = Ending.returned (Value.int IntKind.i64 n154) ∧ ∃
  (R155 : List Own), ∃ (Φ156 : PW), Stable Φ156 ∧ Ctx W w153 (R155 ++ R151) Φ156 ∧ Br (decide (n112 ≠ n154)) (∀ (w157 : World) (R158 : List Own), Ctx W w157 (R155 ++ R158) Φ156 → J
  (Value.bool false) w157) (∀ (w159 : World) (R160 : List Own), Ctx W w159 (R155 ++ R160) Φ156 → Calls Tryd.prog F.ledger_Ledger_Net #[Value.pointer p38] w159 fun (e161 : Ending) (w162 :
  World) => ∃ (p163 : Option Addr), ∃ (k164 : Nat), ∃ (k165 : Nat), e161 = Ending.returned (Value.slice p163 k164 k165) ∧ ∃ (R166 : List Own), ∃ (Φ167 : PW), Stable Φ167 ∧ Ctx W w162 (R166 ++
  R160) Φ167 ∧ ∀ (w168 : World) (R169 : List Own), Ctx W w168 (R166 ++ R169) Φ167 → Calls Tryd.prog F.delta_Find #[Value.slice p163 k164 k165, Value.int IntKind.i64 n91, Value.slice p92 k93
  k94] w168 fun (e170 : Ending) (w171 : World) => ∃ (n172 : Int), e170 = Ending.returned (Value.int IntKind.i64 n172) ∧ ∃ (R173 : List Own), ∃ (Φ174 : PW), Stable Φ174 ∧ Ctx W w171 (R173 ++
  R169) Φ174 ∧ Br (decide (n112 ≠ n172)) (∀ (w175 : World) (R176 : List Own), Ctx W w175 (R173 ++ R176) Φ174 → J (Value.bool false) w175) (exI fun (I177 : Int → List Own → PW → Nat → Prop) =>
  (∃ (R178 : List Own), ∃ (Φ179 : PW), ∃ (k180 : Nat), Stable Φ179 ∧ (∀ (w181 : World) (R182 : List Own), Ctx W w181 (R173 ++ R182) Φ174 → Ctx W w181 (R178 ++ R182) Φ179) ∧ I177 0 R178 Φ179
  k180) ∧ ∀ (n183 : Int) (R184 : List Own) (I185 : List Nat → World → Prop) (k186 : Nat), Stable I185 → I177 n183 R184 I185 k186 → Br (decide (n183 < (↑k48 : Int))) (I64 (n183 + 1) ∧ ∀ (w187
  : World) (R188 : List Own), Ctx W w187 (R184 ++ R188) I185 → Calls Tryd.prog F.ledger_Ledger_Line #[Value.pointer p38, Value.int IntKind.i64 (n183 + 1)] w187 fun (e189 : Ending) (w190 :
  World) => ∃ (n191 : Int), ∃ (n192 : Int), ∃ (n193 : Int), ∃ (p194 : Option Addr), ∃ (k195 : Nat), ∃ (k196 : Nat), ∃ (n197 : Int), ∃ (n198 : Int), ∃ (n199 : Int), ∃ (c200 : Bool), e189 =
  Ending.returned (Value.tuple #[Value.agg #[Value.int IntKind.i64 n191, Value.int IntKind.i64 n192, Value.int IntKind.i64 n193, Value.slice p194 k195 k196, Value.int IntKind.i64 n197,
  Value.int IntKind.i64 n198, Value.int IntKind.i64 n199], Value.bool c200]) ∧ ∃ (R201 : List Own), ∃ (Φ202 : PW), Stable Φ202 ∧ Ctx W w190 (R201 ++ R188) Φ202 ∧ ∀ (b : Nat), (0 ≤ n183 ∧ n183
  < (↑k48 : Int)) ∧ ptrK none p47 fun (k203 k204 : Nat) => ∀ (w205 : World) (R206 : List Own), Ctx W w205 (R201 ++ R206) Φ202 → ∃ (n207 : Int), w205.cell? (Addr.mk k203 (k204 + n183.toNat * 7
  + 1) none) = some (Value.int IntKind.i64 n207) ∧ ∀ (w208 : World) (R209 : List Own), Ctx W w208 (R201 ++ R209) Φ202 → Calls Tryd.prog F.ledger_Ledger_Batch #[Value.pointer p38, Value.int
  IntKind.i64 n207] w208 fun (e210 : Ending) (w211 : World) => ∃ (p212 : Option Addr), ∃ (k213 : Nat), ∃ (k214 : Nat), ∃ (n215 : Int), ∃ (c216 : Bool), e210 = Ending.returned (Value.tuple
  #[Value.slice p212 k213 k214, Value.int IntKind.i64 n215, Value.bool c216]) ∧ ∃ (R217 : List Own), ∃ (Φ218 : PW), Stable Φ218 ∧ Ctx W w211 (R217 ++ R209) Φ218 ∧ exI fun (I219 : Bool → Int →
  List Own → PW → Nat → Prop) => (∃ (R220 : List Own), ∃ (Φ221 : PW), ∃ (k222 : Nat), Stable Φ221 ∧ (∀ (w223 : World) (R224 : List Own), Ctx W w223 (R217 ++ R224) Φ218 → Ctx W w223 (R220 ++
  R224) Φ221) ∧ I219 false 0 R220 Φ221 k222) ∧ ∀ (c225 : Bool) (n226 : Int) (R227 : List Own) (I228 : List Nat → World → Prop) (k229 : Nat), Stable I228 → I219 c225 n226 R227 I228 k229 → Br
  (decide (n226 < (↑k213 : Int))) (∃ (R230 : List Own), ∃ (Φ231 : PW), Stable Φ231 ∧ (∀ (w232 : World) (R233 : List Own), Ctx W w232 (R227 ++ R233) I228 → Ctx W w232 (R230 ++ R233) Φ231) ∧ Br
  c225 (I64 (n226 + 1) ∧ ∃ (R234 : List Own), ∃ (Φ235 : PW), ∃ (k236 : Nat), Stable Φ235 ∧ (∀ (w237 : World) (R238 : List Own), Ctx W w237 (R227 ++ R238) I228 → Ctx W w237 (R234 ++ R238)
  Φ235) ∧ I219 true (n226 + 1) R234 Φ235 k236 ∧ k236 < k229) ((0 ≤ n226 ∧ n226 < (↑k213 : Int)) ∧ ptrK none p212 fun (k239 k240 : Nat) => ∃ (n241 : Int), ∃ (n242 : Int), ∃ (n243 : Int), ∃
  (p244 : Option Addr), ∃ (k245 : Nat), ∃ (k246 : Nat), ∃ (n247 : Int), ∃ (n248 : Int), ∃ (n249 : Int), (∀ (w250 : World) (R251 : List Own), Ctx W w250 (R230 ++ R251) Φ231 → ∃ (n252 : Int), ∃
  (n253 : Int), ∃ (n254 : Int), ∃ (p255 : Option Addr), ∃ (k256 : Nat), ∃ (k257 : Nat), ∃ (n258 : Int), ∃ (n259 : Int), ∃ (n260 : Int), RowAt w250 k239 (k240 + n226.toNat * 7) [Value.int
  IntKind.i64 n252, Value.int IntKind.i64 n253, Value.int IntKind.i64 n254, Value.slice p255 k256 k257, Value.int IntKind.i64 n258, Value.int IntKind.i64 n259, Value.int IntKind.i64 n260] ∧
  Value.agg #[Value.int IntKind.i64 n252, Value.int IntKind.i64 n253, Value.int IntKind.i64 n254, Value.slice p255 k256 k257, Value.int IntKind.i64 n258, Value.int IntKind.i64 n259, Value.int
  IntKind.i64 n260] = Value.agg #[Value.int IntKind.i64 n241, Value.int IntKind.i64 n242, Value.int IntKind.i64 n243, Value.slice p244 k245 k246, Value.int IntKind.i64 n247, Value.int
  IntKind.i64 n248, Value.int IntKind.i64 n249]) ∧ ∀ (w261 : World) (R262 : List Own), Ctx W w261 (R227 ++ R262) I228 → Calls Tryd.prog F.errataref41_SameLine #[Value.agg #[Value.int
  IntKind.i64 n241, Value.int IntKind.i64 n242, Value.int IntKind.i64 n243, Value.slice p244 k245 k246, Value.int IntKind.i64 n247, Value.int IntKind.i64 n248, Value.int IntKind.i64 n249],
  Value.agg #[Value.int IntKind.i64 n191, Value.int IntKind.i64 n192, Value.int IntKind.i64 n193, Value.slice p194 k195 k196, Value.int IntKind.i64 n197, Value.int IntKind.i64 n198, Value.int
  IntKind.i64 n199]] w261 fun (e263 : Ending) (w264 : World) => ∃ (c265 : Bool), e263 = Ending.returned (Value.bool c265) ∧ ∃ (R266 : List Own), ∃ (Φ267 : PW), Stable Φ267 ∧ Ctx W w264 (R266
  ++ R262) Φ267 ∧ I64 (n226 + 1) ∧ ∃ (R268 : List Own), ∃ (Φ269 : PW), ∃ (k270 : Nat), Stable Φ269 ∧ (∀ (w271 : World) (R272 : List Own), Ctx W w271 (R266 ++ R272) Φ267 → Ctx W w271 (R268 ++
  R272) Φ269) ∧ I219 c265 (n226 + 1) R268 Φ269 k270 ∧ k270 < k229)) (∃ (R273 : List Own), ∃ (Φ274 : PW), Stable Φ274 ∧ (∀ (w275 : World) (R276 : List Own), Ctx W w275 (R227 ++ R276) I228 →
  Ctx W w275 (R273 ++ R276) Φ274) ∧ Br (!c200) (∀ (w277 : World) (R278 : List Own), Ctx W w277 (R227 ++ R278) I228 → J (Value.bool false) w277) (Br (!c216) (∀ (w279 : World) (R280 : List
  Own), Ctx W w279 (R227 ++ R280) I228 → J (Value.bool false) w279) (Br (!c225) (∀ (w281 : World) (R282 : List Own), Ctx W w281 (R227 ++ R282) I228 → J (Value.bool false) w281) ((0 ≤ n183 ∧
  n183 < (↑k48 : Int)) ∧ ptrK none p47 fun (k283 k284 : Nat) => I64 (n183 + 1) ∧ ∃ (n285 : Int), (∀ (w286 : World) (R287 : List Own), Ctx W w286 (R273 ++ R287) Φ274 → ∃ (n288 : Int),
  w286.cell? (Addr.mk k283 (k284 + n183.toNat * 7) none) = some (Value.int IntKind.i64 n288) ∧ Value.int IntKind.i64 n288 = Value.int IntKind.i64 n285) ∧ Br (decide (n285 ≠ n183 + 1)) (∀
  (w289 : World) (R290 : List Own), Ctx W w289 (R227 ++ R290) I228 → J (Value.bool false) w289) ((0 ≤ n183 ∧ n183 < (↑k48 : Int)) ∧ ptrK none p47 fun (k291 k292 : Nat) => ∃ (n293 : Int), ∃
  (n294 : Int), ∃ (n295 : Int), ∃ (p296 : Option Addr), ∃ (k297 : Nat), ∃ (k298 : Nat), ∃ (n299 : Int), ∃ (n300 : Int), ∃ (n301 : Int), (∀ (w302 : World) (R303 : List Own), Ctx W w302 (R273
  ++ R303) Φ274 → ∃ (n304 : Int), ∃ (n305 : Int), ∃ (n306 : Int), ∃ (p307 : Option Addr), ∃ (k308 : Nat), ∃ (k309 : Nat), ∃ (n310 : Int), ∃ (n311 : Int), ∃ (n312 : Int), RowAt w302 k291 (k292
  + n183.toNat * 7) [Value.int IntKind.i64 n304, Value.int IntKind.i64 n305, Value.int IntKind.i64 n306, Value.slice p307 k308 k309, Value.int IntKind.i64 n310, Value.int IntKind.i64 n311,
  Value.int IntKind.i64 n312] ∧ Value.agg #[Value.int IntKind.i64 n304, Value.int IntKind.i64 n305, Value.int IntKind.i64 n306, Value.slice p307 k308 k309, Value.int IntKind.i64 n310,
  Value.int IntKind.i64 n311, Value.int IntKind.i64 n312] = Value.agg #[Value.int IntKind.i64 n293, Value.int IntKind.i64 n294, Value.int IntKind.i64 n295, Value.slice p296 k297 k298,
  Value.int IntKind.i64 n299, Value.int IntKind.i64 n300, Value.int IntKind.i64 n301]) ∧ ∀ (w313 : World) (R314 : List Own), Ctx W w313 (R227 ++ R314) I228 → Calls Tryd.prog
  F.errataref41_SameLine #[Value.agg #[Value.int IntKind.i64 n191, Value.int IntKind.i64 n192, Value.int IntKind.i64 n193, Value.slice p194 k195 k196, Value.int IntKind.i64 n197, Value.int
  IntKind.i64 n198, Value.int IntKind.i64 n199], Value.agg #[Value.int IntKind.i64 n293, Value.int IntKind.i64 n294, Value.int IntKind.i64 n295, Value.slice p296 k297 k298, Value.int
  IntKind.i64 n299, Value.int IntKind.i64 n300, Value.int IntKind.i64 n301]] w313 fun (e315 : Ending) (w316 : World) => ∃ (c317 : Bool), e315 = Ending.returned (Value.bool c317) ∧ ∃ (R318 :
  List Own), ∃ (Φ319 : PW), Stable Φ319 ∧ Ctx W w316 (R318 ++ R314) Φ319 ∧ Br (!c317) (∀ (w320 : World) (R321 : List Own), Ctx W w320 (R318 ++ R321) Φ319 → J (Value.bool false) w320) (I64
  (n183 + 1) ∧ ∃ (R322 : List Own), ∃ (Φ323 : PW), ∃ (k324 : Nat), Stable Φ323 ∧ (∀ (w325 : World) (R326 : List Own), Ctx W w325 (R318 ++ R326) Φ319 → Ctx W w325 (R322 ++ R326) Φ323) ∧ I177
  (n183 + 1) R322 Φ323 k324 ∧ k324 < k186))))))) (∀ (w327 : World) (R328 : List Own), Ctx W w327 (R184 ++ R328) I185 → Calls Tryd.prog F.ledger_Ledger_Causes #[Value.pointer p38] w327 fun
  (e329 : Ending) (w330 : World) => ∃ (n331 : Int), ∃ (n332 : Int), ∃ (n333 : Int), e329 = Ending.returned (Value.tuple #[Value.int IntKind.i64 n331, Value.int IntKind.i64 n332, Value.int
  IntKind.i64 n333]) ∧ ∃ (R334 : List Own), ∃ (Φ335 : PW), Stable Φ335 ∧ Ctx W w330 (R334 ++ R328) Φ335 ∧ ∀ (w336 : World) (R337 : List Own), Ctx W w336 (R334 ++ R337) Φ335 → (c4 = true → I64
  (n331 + n332)) ∧ (c4 = true → I64 (n331 + n332 + n333)) ∧ ∀ (w338 : World) (R339 : List Own), Ctx W w338 (R334 ++ R339) Φ335 → J (Value.bool (c4 && decide (n331 + n332 + n333 = (↑k48 :
  Int)))) w338))))))))

theorem Cerratalaw41_LedgerHistory_run (lP : Option Addr) (lN lC : Nat) (time : Int) (rowP : Option Addr) (rowN rowC : Nat) {W w : World} {R : List Own} {Φ : PW} [Stable Φ] {J : Value → World → Prop} (c : Ctx W w R Φ) (h : Cerratalaw41_LedgerHistory lP lN lC time rowP rowN rowC W R Φ J) : Calls Tryd.prog F.erratalaw41_LedgerHistory #[.slice lP lN lC, .int .i64 time, .slice rowP rowN rowC] w fun e w' => ∃ v, e = .returned v ∧ J v w' :=
  vcFS_sound (H := { keep := some [0, 1, 2, 6, 7, 8, 9, 10, 11, 12, 13, 14, 15, 16, 18, 19, 20, 21, 22, 23, 37, 42, 52, 76, 102, 117, 121, 145, 185], wrap := [85], track := [14], stages := [(30, [.held [(0, true), (1, true), (2, true), (3, true), (6, true), (4, true), (5, true)], .stage [] (some 7), .stage [8, 9] none]), (31, [.held [(0, true), (1, true), (2, true), (3, true), (4, true), (5, true), (6, true), (7, true), (8, true), (9, true), (10, true), (11, true), (12, true), (16, true), (13, true), (17, true), (14, true), (15, true), (18, true), (19, true), (20, true), (21, true), (22, true), (23, true), (24, true), (25, true)], .stage [] (some 26), .stage [27, 28] none])], split := [2, 17, 19], loops := [(28, [(19, .one (.bool)), (20, .one (.int .i64))], []), (22, [(13, .one (.int .i64))], []), (14, [(10, .one (.int .i64)), (12, .one (.int .i64))], [])], cuts := [(11, [(1, .one (.int .i64)), (2, .one (.slice))], [])] }) (by rw [show vcFS Tryd.prog W { keep := some [0, 1, 2, 6, 7, 8, 9, 10, 11, 12, 13, 14, 15, 16, 18, 19, 20, 21, 22, 23, 37, 42, 52, 76, 102, 117, 121, 145, 185], wrap := [85], track := [14], stages := [(30, [.held [(0, true), (1, true), (2, true), (3, true), (6, true), (4, true), (5, true)], .stage [] (some 7), .stage [8, 9] none]), (31, [.held [(0, true), (1, true), (2, true), (3, true), (4, true), (5, true), (6, true), (7, true), (8, true), (9, true), (10, true), (11, true), (12, true), (16, true), (13, true), (17, true), (14, true), (15, true), (18, true), (19, true), (20, true), (21, true), (22, true), (23, true), (24, true), (25, true)], .stage [] (some 26), .stage [27, 28] none])], split := [2, 17, 19], loops := [(28, [(19, .one (.bool)), (20, .one (.int .i64))], []), (22, [(13, .one (.int .i64))], []), (14, [(10, .one (.int .i64)), (12, .one (.int .i64))], [])], cuts := [(11, [(1, .one (.int .i64)), (2, .one (.slice))], [])] } F.erratalaw41_LedgerHistory #[.slice lP lN lC, .int .i64 time, .slice rowP rowN rowC] R Φ J = Cerratalaw41_LedgerHistory lP lN lC time rowP rowN rowC W R Φ J by kernel_rfl]; exact h) c

end Go.Proofs.YtbkpfhhhbhaecaaDoor
end

/-
  The law LedgerHistory, walked.
-/
section
set_option linter.unusedVariables false
set_option linter.unusedSimpArgs false
namespace Go.Proofs.YtbkpfhhhbhaecaaDoor
open Go.Vc


/-! ### plain -/
def sumN : List LineD → Int
  | [] => 0
  | x :: l => x.n + sumN l
theorem sumN_app (a b : List LineD) : sumN (a ++ b) = sumN a + sumN b := by
  induction a with
  | nil => simp [sumN]
  | cons x a ih => simp only [List.cons_append, sumN, ih]; omega
theorem sumN_step {l : List LineD} {i : Nat} (h : i < l.length) : sumN (l.take (i + 1)) = sumN (l.take i) + l[i].n := by
  rw [List.take_succ_eq_append_getElem h, sumN_app]
  simp [sumN]
theorem hist_mem {l : List LineD} {t : Int} {r : List ValD} {x : LineD} (h : x ∈ histP l t r) : x.time = t ∧ x.row = r ∧ x ∈ l := by
  obtain ⟨h1, h2⟩ := List.mem_filter.1 h
  unfold isAt at h2
  rw [Bool.and_eq_true] at h2
  exact ⟨of_decide_eq_true h2.1, of_decide_eq_true h2.2, h1⟩
theorem hist_sum (t : Int) (r : List ValD) : ∀ l : List LineD, sumN (histP l t r) = sumK (l.map LineD.d) (t, r)
  | [] => rfl
  | x :: l => by
    have ih := hist_sum t r l
    show sumN ((x :: l).filter (isAt t r)) = (if x.d.key = (t, r) then x.d.n else 0) + sumK (l.map LineD.d) (t, r)
    by_cases h : isAt t r x = true
    · rw [List.filter_cons_of_pos h]
      have h2 := h
      unfold isAt at h2
      rw [Bool.and_eq_true] at h2
      have e : x.d.key = (t, r) := by
        show (x.time, x.row) = (t, r)
        rw [of_decide_eq_true h2.1, of_decide_eq_true h2.2]
      rw [if_pos e]
      show x.n + sumN (histP l t r) = _
      rw [ih]; rfl
    · rw [List.filter_cons_of_neg h]
      have e : ¬ x.d.key = (t, r) := fun e => h (by
        have e1 : x.time = t := congrArg Prod.fst e
        have e2 : x.row = r := congrArg Prod.snd e
        unfold isAt
        rw [decide_eq_true e1, decide_eq_true e2]; rfl)
      rw [if_neg e, Int.zero_add]
      exact ih
theorem hist_cnt {st : LedD} (hv : Inv st) (hs : LedS st) {t : Int} {r : List ValD} (hf : ∀ v ∈ r, FitV v) (hl : r.length ≤ 1000000) : w64 (sumN (histP st.lines t r)) = cntL st.lines (t, rowB r) ∧ w64 (sumN (histP st.lines t r)) = findP (netP st.lines) (t, r) := by
  have h1 := sum_cnt (z := ⟨0, 0, t, r, 0, 0, 0⟩) hf hl hv.fit hs.rows
  have h1 : sumK (st.lines.map LineD.d) (t, r) = cntL st.lines (t, rowB r) := h1
  obtain ⟨c1, c2⟩ := hv.cnt (t, rowB r)
  refine ⟨?_, ?_⟩
  · rw [hist_sum, h1, w64_id (by unfold I64; omega)]
  · rw [hist_sum, net_find]
theorem bat_one {st : LedD} (hw : Inv2 st) {i j : Nat} (hi : i < st.bats.length) (hj : j < st.bats.length) (h : st.bats[i].no = st.bats[j].no) : i = j := by
  have hp := List.pairwise_iff_getElem.1 hw.asc
  rcases Nat.lt_trichotomy i j with h1 | h1 | h1
  · have := hp i j hi hj h1; omega
  · exact h1
  · have := hp j i hj hi h1; omega

section
variable {Φ : PW} {q : LP} {st : LedD} {W w : World} {R S G : List Own} {p r : Option Addr} {cap cap2 : Nat}

theorem FindH [Stable Φ] {a : List DeltaD} {t : Int} {rw : List ValD} [hΦ : Has Φ (fun M w => Sl M w p a)] [hΨ : Has Φ (fun M w => Sl M w r rw)] (ha : a.length ≤ 1000000) :
    GivesIn Φ Tryd.prog F.delta_Find #[.slice p a.length cap, .int .i64 t, .slice r rw.length cap2] (.int .i64 (findP a (t, rw))) := Find_in p cap a t r cap2 rw hΦ.go hΨ.go (by omega)

set_option maxHeartbeats 8000000 in
theorem History_pin [Stable Φ] [hT : Has Φ TabI] {time : Int} {row : List ValD} {l : List PushD} {g o : Nat} {cs : List (List Value)} (hp : 0 < l.length → p = some ⟨g, o, none⟩) (hP : ∀ M w, Φ M w → Pin g o cs l M w) (hlen : l.length ≤ maxLen) [hR : Has Φ (fun M w => Sl M w r row)] (hrl : row.length ≤ maxLen) :
    GivesIn Φ Tryd.prog F.erratalaw41_LedgerHistory #[.slice p l.length cap, .int .i64 time, .slice r row.length cap2] (.bool true) := by
  refine .know (fun M w h => sl_i64 (hR.go M w h)) fun hri => ?_
  refine gives_in (Cerratalaw41_LedgerHistory_run p l.length cap time r row.length cap2) fun W R => ?_
  refine fun w G cx => small41_in.toB cx fun w G cx => (Few41_in hp hP hlen).toB cx ?_
  clear cx
  refine Br.intro (fun _ => fun w G cx => ⟨rfl, cx.left⟩) (fun hfew => ?_)
  obtain ⟨hl25, hpu⟩ := few_out (l := l) (n := 25) (by simpa using hfew)
  refine fun w G cx => (Short_in (r := row) (n := 13) hrl).toB cx ?_
  clear cx
  refine Br.intro (fun _ => fun w G cx => ⟨rfl, cx.left⟩) (fun hsh => ?_)
  obtain ⟨hrt, hr13⟩ := short_out (r := row) (n := 13) (by simpa using hsh)
  refine fun w G cx => (RightRow_in (r := row)).toB cx ?_
  clear cx
  refine Br.intro (fun _ => fun w G cx => ⟨rfl, cx.left⟩) (fun _ => ?_)
  refine fun w G cx => made_to (p := p) (cap := cap) hp hP (by omega) (fun x hx => hpu x hx) cx fun q hq hi st0 => Br.intro (fun h => by cases h) (fun _ => ?_)
  clear cx
  obtain ⟨st, hst⟩ : ∃ st, madeP l = st := ⟨_, rfl⟩
  rw [hst] at hq hi st0 ⊢
  obtain ⟨hs, hv, hw, hn1, hn2⟩ := hi
  have hsl := hs.lines
  refine fun w G cx => (Lines_q hq hs).src cx fun pa ca csA ea1 ea2 hta hca stA => ?_
  clear cx
  have srcA : ∀ {Ψ : PW} (h : Has Ψ (fun M w => SrcF pa st.lines csA M w)), Src [] Ψ pa st.lines csA := fun h => src_fact hta h.go
  have cellA : ∀ {Ψ : PW} (h : Has Ψ (fun M w => SrcF pa st.lines csA M w)) {S : List Own} {w : World} {b o : Nat}, pa = some ⟨b, o, none⟩ → Ctx W w S Ψ → ∀ {i : Nat} {x : LineD} {a : Option Addr} {ac : Nat}, (csA.drop (i * 7)).take 7 = x.cells a ac → ∀ {k : Nat} {v : Value}, (x.cells a ac)[k]? = some v → w.cell? ⟨b, o + i * 7 + k, none⟩ = some v := fun {Ψ} h {S w b o} e cx {i x a ac} he {k v} hv => by
    obtain ⟨hk, hv⟩ := List.getElem?_eq_some_iff.1 hv
    have := src_at (S := []) (G := S) (srcA h) e cx he k hk
    rw [this, hv]
  obtain ⟨nb, hnb⟩ : ∃ nb, ∀ w', (binOp .and 3 (.int .i64 time) (.int .i64 1)).run Tryd.prog w' = .ok (.int .i64 nb) w' := ⟨_, fun _ => rfl⟩
  refine exI_mk (fun t pr k c R' Φ' => ∃ rw : List ValD, k = rw.length ∧ rw.length ≤ 13 ∧ (∀ v ∈ rw, FitV v ∧ v.text.size ≤ 300) ∧ R' = LedO q st ++ R ∧ Φ' = (fun M w => ((Φ M w ∧ LF q st M w) ∧ SrcF pa st.lines csA M w) ∧ Sl M w pr rw)) ⟨?_, ?_⟩
  · refine fun w G cx => ⟨nb, fun _ => hnb, ?_⟩
    clear cx
    refine Br.intro (fun h => fun w G cx => ?_) (fun _ => ⟨LedO q st ++ R, (fun M w => ((Φ M w ∧ LF q st M w) ∧ SrcF pa st.lines csA M w) ∧ Sl M w r row), instStableAnd _ (fun M w => Sl M w r row), fun w G cx => cx.weak fun M w h => ⟨h, hR.go M w h.1.1⟩, row, rfl, by omega, fun v hv => ⟨⟨(hri v hv).1, by have := hrt v hv; omega⟩, hrt v hv⟩, rfl, rfl⟩)
    rw [Bool.and_eq_true] at h
    have hpos : 0 < st.lines.length := by have := of_decide_eq_true h.1; omega
    obtain ⟨ga, oa, hpa⟩ := hta hpos
    have m1 := mod_bd (n := time) (m := (st.lines.length : Int)) (by omega)
    obtain ⟨j1, hj1⟩ : ∃ j : Nat, modP time st.lines.length = j := ⟨(modP time st.lines.length).toNat, by omega⟩
    have hj1l : j1 < st.lines.length := by omega
    obtain ⟨a1, ac1, he1, _⟩ := hca j1 hj1l
    refine (mod_g (n := time) (m := (st.lines.length : Int)) (by omega) (by omega)).use cx fun w c => ⟨_, rfl, _, _, stA, c, ?_⟩
    rw [hj1]
    refine ⟨by omega, ptrK_intro ga oa hpa fun w G cx => ⟨st.lines[j1].time, by rw [Int.toNat_natCast]; exact cellA inferInstance hpa cx he1 rfl, fun w G cx => ?_⟩⟩
    have m2 := mod_bd (n := st.lines[j1].time) (m := (st.lines.length : Int)) (by omega)
    obtain ⟨j2, hj2⟩ : ∃ j : Nat, modP st.lines[j1].time st.lines.length = j := ⟨(modP st.lines[j1].time st.lines.length).toNat, by omega⟩
    have hj2l : j2 < st.lines.length := by omega
    obtain ⟨a2, ac2, he2, _⟩ := hca j2 hj2l
    refine (mod_g (n := st.lines[j1].time) (m := (st.lines.length : Int)) (by omega) (by omega)).use cx fun w c => ⟨_, rfl, _, _, stA, c, ?_⟩
    rw [hj2]
    refine ⟨by omega, ptrK_intro ga oa hpa fun w G cx => ⟨a2, st.lines[j2].row.length, ac2, by rw [Int.toNat_natCast]; exact cellA inferInstance hpa cx he2 rfl, LedO q st ++ R, (fun M w => ((Φ M w ∧ LF q st M w) ∧ SrcF pa st.lines csA M w) ∧ Sl M w a2 st.lines[j2].row), @instStableAnd _ (fun M w => Sl M w a2 st.lines[j2].row) stA (instStableSl a2 st.lines[j2].row), fun w G cx => cx.weak fun M w h => ⟨h, src_sl (src_fact (Φ := SrcF pa st.lines csA) hta fun M w h => h) hj2l he2 h.2⟩, st.lines[j2].row, rfl, hs.row _ (List.getElem_mem _), fun v hv2 => ⟨hv.fit _ (List.getElem_mem _) v hv2, hs.text _ (List.getElem_mem _) v hv2⟩, rfl, rfl⟩⟩
  rintro t pr kr cr R1 Φ1 _ ⟨rw, rfl, hw13, hwf, rfl, rfl⟩
  obtain ⟨hc1, hc2⟩ := hist_cnt hv hs (t := t) (r := rw) (fun v h => (hwf v h).1) (by omega)
  have hnl := net_len st.lines
  refine fun w G cx => (History_q (rw := rw) hq hs).src cx fun ph ch csH eh1 eh2 hth hch stH => ?_
  clear cx
  obtain ⟨H, hH⟩ : ∃ H, histP st.lines t rw = H := ⟨_, rfl⟩
  have hHm : ∀ x ∈ H, x.time = t ∧ x.row = rw := fun x hx => by
    rw [← hH] at hx
    exact ⟨(hist_mem hx).1, (hist_mem hx).2.1⟩
  have hHl : H.length ≤ st.lines.length := by rw [← hH]; exact List.length_filter_le _ _
  rw [hH] at hc1 hc2 eh1 hth hch stH ⊢
  have srcH : ∀ {Ψ : PW} (h : Has Ψ (fun M w => SrcF ph H csH M w)), Src [] Ψ ph H csH := fun h => src_fact hth h.go
  refine exI_mk (fun n jI R' Φ' k => ∃ j : Nat, jI = j ∧ j ≤ H.length ∧ n = w64 (sumN (H.take j)) ∧ R' = LedO q st ++ R ∧ Φ' = (fun M w => (((Φ M w ∧ LF q st M w) ∧ SrcF pa st.lines csA M w) ∧ Sl M w pr rw) ∧ SrcF ph H csH M w) ∧ k = H.length - j) ⟨⟨_, _, _, stH, fun w G cx => cx, 0, rfl, Nat.zero_le _, rfl, rfl, rfl, rfl⟩, ?_⟩
  rintro n jI R2 Φ2 k2 _ ⟨j, rfl, hj, rfl, rfl, rfl, rfl⟩
  refine Br.intro (fun hlt => ?_) (fun hge => fun w G cx => ?_)
  · have hlt : j < H.length := by have := of_decide_eq_true hlt; omega
    obtain ⟨gh, oh, hph⟩ := hth (by omega)
    obtain ⟨a, ac, he, h1, h2, h3⟩ := hch j hlt
    obtain ⟨ht, hr⟩ := hHm _ (List.getElem_mem hlt)
    have cellH : ∀ {S : List Own} {w : World}, Ctx W w S (fun M w => (((Φ M w ∧ LF q st M w) ∧ SrcF pa st.lines csA M w) ∧ Sl M w pr rw) ∧ SrcF ph H csH M w) → ∀ {k : Nat} {v : Value}, (H[j].cells a ac)[k]? = some v → w.cell? ⟨gh, oh + (j : Int).toNat * 7 + k, none⟩ = some v := fun {S w} cx {k v} hv => by
      obtain ⟨hk, hv⟩ := List.getElem?_eq_some_iff.1 hv
      have := src_at (S := []) (G := S) (srcH inferInstance) hph cx he k hk
      rw [Int.toNat_natCast, this, hv]
    have hh : Has (fun M w => (((Φ M w ∧ LF q st M w) ∧ SrcF pa st.lines csA M w) ∧ Sl M w pr rw) ∧ SrcF ph H csH M w) (fun M w => Sl M w a H[j].row) := ⟨fun M w h => src_sl (src_fact (Φ := SrcF ph H csH) hth fun M w h => h) hlt he h.2⟩
    refine ⟨by omega, ptrK_intro gh oh hph fun w G cx => ⟨H[j].n, cellH cx rfl, by omega, ptrK_intro gh oh hph fun w G cx => ⟨H[j].time, cellH cx rfl, ?_⟩⟩⟩
    clear cx
    refine Br.intro (fun h => absurd ht (of_decide_eq_true h)) (fun _ => ⟨by omega, ptrK_intro gh oh hph fun w G cx => ⟨a, H[j].row.length, ac, cellH cx rfl, fun w G cx => ?_⟩⟩)
    have hsm : decide (cmpR H[j].row rw = 0) = true := by rw [hr]; exact decide_eq_true (cmpR_cmp.refl rw)
    have hsame := fun (Ψ : PW) (s : Stable Ψ) (x1 : Has Ψ (fun M w => Sl M w a H[j].row)) (x2 : Has Ψ (fun M w => Sl M w pr rw)) => Same03r_in (Φ := Ψ) (hA := x1) (hB := x2) (a := H[j].row) (b := rw) (p := a) (cap := ac) (r := pr) (cap2 := cr) (by rw [hr]; omega)
    rw [hsm] at hsame
    refine (hsame _ inferInstance hh inferInstance).toB cx ?_
    clear cx
    refine Br.intro (fun h => by cases h) (fun _ => ⟨by unfold I64; omega, _, _, H.length - (j + 1), stH, fun w G cx => cx, ⟨j + 1, rfl, hlt, ?_, rfl, rfl, rfl⟩, by omega⟩)
    show w64 (w64 _ + _) = _
    rw [w64_l, sumN_step hlt]
  have hge : j = H.length := by have := of_decide_eq_false hge; omega
  subst hge
  rw [List.take_length]
  refine (Count_q (r := rw) (p := pr) (cap := cr) (t := t) hq (by omega) (fun v h => by have := (hwf v h).2; omega)).toI cx ?_
  clear cx
  refine Br.intro (fun h => absurd hc1 (of_decide_eq_true h)) (fun _ => ?_)
  refine fun w G cx => (Net_q hq hs).tot cx fun pn cn _ _ _ stN => ?_
  clear cx
  refine fun w G cx => (FindH (a := netP st.lines) (p := pn) (cap := cn) (t := t) (rw := rw) (r := pr) (cap2 := cr) (by omega)).toI cx ?_
  clear cx
  refine Br.intro (fun h => absurd hc2 (of_decide_eq_true h)) (fun _ => ?_)
  -- each line by its number, and in its batch
  have stB : Stable (fun M w => (Φ M w ∧ LF q st M w) ∧ SrcF pa st.lines csA M w) := stA
  refine exI_mk (fun iI R' Φ' k => ∃ i : Nat, iI = i ∧ i ≤ st.lines.length ∧ R' = LedO q st ++ R ∧ Φ' = (fun M w => (Φ M w ∧ LF q st M w) ∧ SrcF pa st.lines csA M w) ∧ k = st.lines.length - i) ⟨⟨LedO q st ++ R, _, _, stB, fun w G cx => cx.weak fun M w h => h.1.1.1, 0, rfl, Nat.zero_le _, rfl, rfl, rfl⟩, ?_⟩
  rintro iI R3 Φ3 k3 _ ⟨i, rfl, hi, rfl, rfl, rfl⟩
  refine Br.intro (fun hlt => ⟨by unfold I64; omega, fun w G cx => ?_⟩) (fun hge => fun w G cx => Causes_to cx ?_)
  · have hlt : i < st.lines.length := by have := of_decide_eq_true hlt; omega
    obtain ⟨ga, oa, hpa⟩ := hta (by omega)
    obtain ⟨a, ac, he, _⟩ := hca i hlt
    refine Line_to (no := (i : Int) + 1) hq hs cx (fun h => absurd ⟨by omega, by omega⟩ h) fun j hj b bc e m1 m2 stL => ?_
    clear cx
    have hij : i = j := by omega
    subst hij
    refine fun _ => ⟨by omega, ptrK_intro ga oa hpa fun w G cx => ⟨st.lines[i].batch, by rw [Int.toNat_natCast]; exact cellA inferInstance hpa cx he rfl, fun w G cx => ?_⟩⟩
    obtain ⟨j0, hj0, s1, s2, s3⟩ := hw.seg i hlt
    refine Batch_to (no := st.lines[i].batch) hq hs hv.bats cx (fun h => absurd s3 (h _ (List.getElem_mem hj0))) fun j1 hj1 L pL cL csL e1 e2 e3 e4 e5 htL hcL stL2 => ?_
    clear cx
    have hjj : j1 = j0 := bat_one hw hj1 hj0 (e1.trans s3.symm)
    subst hjj
    have srcL : ∀ {Ψ : PW} (h : Has Ψ (fun M w => SrcF pL L csL M w)), Src [] Ψ pL L csL := fun h => src_fact htL h.go
    have hLr : ∀ y ∈ L, y ∈ st.lines := fun y hy => by rw [e3] at hy; exact List.mem_of_mem_drop (List.mem_of_mem_take hy)
    have hLl : L.length ≤ st.lines.length := by rw [e3, List.length_take, List.length_drop]; omega
    have hin : L.any (fun y => sameL y st.lines[i]) = true := by
      refine List.any_eq_true.2 ⟨st.lines[i], ?_, sameL_refl _⟩
      rw [e3]
      refine List.mem_iff_getElem?.2 ⟨i - begP st.bats j1, ?_⟩
      rw [List.getElem?_take_of_lt (by omega), List.getElem?_drop, show begP st.bats j1 + (i - begP st.bats j1) = i by omega, List.getElem?_eq_getElem hlt]
    refine exI_mk (fun c kI R' Φ' m => ∃ k : Nat, kI = k ∧ k ≤ L.length ∧ c = (L.take k).any (fun y => sameL y st.lines[i]) ∧ R' = LedO q st ++ R ∧ Φ' = (fun M w => (((Φ M w ∧ LF q st M w) ∧ SrcF pa st.lines csA M w) ∧ Sl M w b st.lines[i].row) ∧ SrcF pL L csL M w) ∧ m = L.length - k) ⟨⟨_, _, _, stL2, fun w G cx => cx, 0, rfl, Nat.zero_le _, rfl, rfl, rfl, rfl⟩, ?_⟩
    rintro c kI R4 Φ4 m4 _ ⟨k, rfl, hk, rfl, rfl, rfl, rfl⟩
    refine Br.intro (fun hlt2 => ?_) (fun hge2 => ?_)
    · have hlt2 : k < L.length := by have := of_decide_eq_true hlt2; omega
      have hstep : (L.take (k + 1)).any (fun y => sameL y st.lines[i]) = ((L.take k).any (fun y => sameL y st.lines[i]) || sameL L[k] st.lines[i]) := by
        rw [List.take_succ_eq_append_getElem hlt2, List.any_append]; simp
      obtain ⟨gl, ol, hpl⟩ := htL (by omega)
      obtain ⟨al, acl, hel, n1, n2, n3⟩ := hcL k hlt2
      have hh : Has (fun M w => (((Φ M w ∧ LF q st M w) ∧ SrcF pa st.lines csA M w) ∧ Sl M w b st.lines[i].row) ∧ SrcF pL L csL M w) (fun M w => Sl M w al L[k].row) := ⟨fun M w h => src_sl (src_fact (Φ := SrcF pL L csL) htL fun M w h => h) hlt2 hel h.2⟩
      have hh2 : Has (fun M w => (((Φ M w ∧ LF q st M w) ∧ SrcF pa st.lines csA M w) ∧ Sl M w b st.lines[i].row) ∧ SrcF pL L csL M w) (fun M w => Sl M w b st.lines[i].row) := ⟨fun M w h => h.1.2⟩
      refine ⟨LedO q st ++ R, _, stL2, fun w G cx => cx, Br.intro (fun hc => ⟨by unfold I64; omega, _, _, L.length - (k + 1), stL2, fun w G cx => cx, ⟨k + 1, rfl, hlt2, by rw [hstep, hc]; rfl, rfl, rfl, rfl⟩, by omega⟩) (fun hc => ⟨by omega, ptrK_intro gl ol hpl ⟨L[k].no, L[k].batch, L[k].time, al, L[k].row.length, acl, L[k].n, L[k].cause, L[k].why, fun w G cx => ⟨_, _, _, _, _, _, _, _, _, by rw [Int.toNat_natCast]; exact src_at (S := []) (G := (LedO q st ++ R) ++ G) (srcL inferInstance) hpl cx hel, rfl⟩, fun w G cx => ?_⟩⟩)⟩
      refine (SameLine_in (p := al) (cap := acl) (r := b) (cap2 := bc) L[k] st.lines[i] (hs.rows _ (hLr _ (List.getElem_mem hlt2)))).toB cx ⟨by unfold I64; omega, _, _, L.length - (k + 1), stL2, fun w G cx => cx, ⟨k + 1, rfl, hlt2, by rw [hstep, hc]; rfl, rfl, rfl, rfl⟩, by omega⟩
    · have hge2 : k = L.length := by have := of_decide_eq_false hge2; omega
      subst hge2
      rw [List.take_length, hin]
      have hh : Has (fun M w => (((Φ M w ∧ LF q st M w) ∧ SrcF pa st.lines csA M w) ∧ Sl M w b st.lines[i].row) ∧ SrcF pL L csL M w) (fun M w => Sl M w a st.lines[i].row) := ⟨fun M w h => src_sl (src_fact (Φ := SrcF pa st.lines csA) hta fun M w h => h) hlt he h.1.1.2⟩
      have hh2 : Has (fun M w => (((Φ M w ∧ LF q st M w) ∧ SrcF pa st.lines csA M w) ∧ Sl M w b st.lines[i].row) ∧ SrcF pL L csL M w) (fun M w => Sl M w b st.lines[i].row) := ⟨fun M w h => h.1.2⟩
      refine ⟨LedO q st ++ R, _, stL2, fun w G cx => cx, Br.intro (fun h => by cases h) (fun _ => Br.intro (fun h => by cases h) (fun _ => Br.intro (fun h => by cases h) (fun _ => ⟨by omega, ptrK_intro ga oa hpa ⟨by unfold I64; omega, st.lines[i].no, fun w G cx => ⟨_, by rw [Int.toNat_natCast]; exact cellA (k := 0) inferInstance hpa cx he rfl, rfl⟩, Br.intro (fun h => absurd (hw.num i hlt) (of_decide_eq_true h)) (fun _ => ⟨by omega, ptrK_intro ga oa hpa ⟨st.lines[i].no, st.lines[i].batch, st.lines[i].time, a, st.lines[i].row.length, ac, st.lines[i].n, st.lines[i].cause, st.lines[i].why, fun w G cx => ⟨_, _, _, _, _, _, _, _, _, by rw [Int.toNat_natCast]; exact src_at (S := []) (G := (LedO q st ++ R) ++ G) (srcA inferInstance) hpa cx he, rfl⟩, fun w G cx => ?_⟩⟩)⟩⟩)))⟩
      have hsl2 := SameLine_in (Φ := fun M w => (((Φ M w ∧ LF q st M w) ∧ SrcF pa st.lines csA M w) ∧ Sl M w b st.lines[i].row) ∧ SrcF pL L csL M w) (p := b) (cap := bc) (r := a) (cap2 := ac) st.lines[i] st.lines[i] (hs.rows _ (List.getElem_mem hlt))
      rw [sameL_refl] at hsl2
      refine hsl2.toB cx ?_
      clear cx
      exact Br.intro (fun h => by cases h) (fun _ => ⟨by unfold I64; omega, _, _, st.lines.length - (i + 1), stB, fun w G cx => cx.weak fun M w h => h.1.1, ⟨i + 1, rfl, hlt, rfl, rfl, rfl⟩, by omega⟩)
  · clear cx
    have hcs := caus_sum hw.cause
    have b0 := caus_bd st.lines 0
    have b1 := caus_bd st.lines 1
    have b2 := caus_bd st.lines 2
    refine fun w G cx => ⟨fun _ => by unfold I64; omega, fun _ => by unfold I64; omega, fun w G cx => ⟨?_, (Ctx.has (Ctx.dropF (Q := LedO q st) cx)).left⟩⟩
    rw [decide_eq_true hcs]; rfl

theorem History_in [Stable Φ] [hT : Has Φ TabI] {time : Int} {row : List ValD} {l : List PushD} [hL : Has Φ (fun M w => Sl M w p l)] (hlen : l.length ≤ maxLen) [hR : Has Φ (fun M w => Sl M w r row)] (hrl : row.length ≤ maxLen) :
    GivesIn Φ Tryd.prog F.erratalaw41_LedgerHistory #[.slice p l.length cap, .int .i64 time, .slice r row.length cap2] (.bool true) :=
  .pinned hL.go fun g o cs hp => History_pin (Φ := fun M w => Φ M w ∧ Pin g o cs l M w) hp (fun M w h => h.2) hlen hrl
end
end Go.Proofs.YtbkpfhhhbhaecaaDoor
end

/-
  From what a row lists as laid to the table of the powers of ten.
-/
section
set_option linter.unusedVariables false
set_option linter.unusedSimpArgs false
namespace Go.Proofs.YtbkpfhhhbhaecaaDoor
open Go.Vc Go.RowKit

theorem tab_drop {P : Program} {w : World} : ∀ (n : Nat) {l : List (String × DataW Unit)}, laidMet P l w → laidMet P (l.drop n) w
  | 0, l, h => by rw [List.drop_zero]; exact h
  | n + 1, [], h => h
  | n + 1, x :: l, h => by rw [List.drop_succ_cons]; exact tab_drop n h.tail
/-- the table, out of a list that has it at the n-th place -/
theorem la_tab {W : World} {l : List (String × DataW Unit)} (n : Nat) (h : laidMetH Tryd.prog l W) (hp : (l.all fun x => x.2.handleName?.isNone) = true) (hd : ∃ r, l.drop n = ("internal/strconv.uint64pow10", Lib.tabData .u64 Lib.pow10Tab) :: r) : TabI [] W := by
  rw [MakeChecks.laidMetH_plain Tryd.prog l W hp] at h
  obtain ⟨r, hr⟩ := hd
  have h2 := tab_drop n h
  rw [hr] at h2
  exact Tab.start (Lib.tabIs_of_head (k := .u64) (zs := Lib.pow10Tab) (g := 1) (t := 189) (e := 182) (n := 20) (by kernel_rfl) (by kernel_rfl) (by kernel_rfl) (by kernel_rfl) (by kernel_rfl) (by kernel_rfl) h2)

end Go.Proofs.YtbkpfhhhbhaecaaDoor
end

section
set_option linter.unusedVariables false
set_option linter.unusedSimpArgs false
namespace Go.Proofs.YtbkpfhhhbhaecaaDoor
open Go.ChangeShapes Go.WideShapes Go.ChangeAt Go.RowKit Go.Vc


theorem df_own : ownKnob Tryd.prog.godebug = none := by kernel_rfl
theorem df_laid : laidOutB Tryd.prog = true := by kernel_rfl

theorem trodAll_n {H : Type} {enc : TypeId × Value → H} {P : Program} {w : World} {base : Nat} {spare : Nat → Bool} {held : Bool} {t0 t1 t2 : TypeId} {args : Array Value} {ds : List (DataW H)} {ps : List MemPlace} (h : DataW.TrodAll enc P w base spare held [t0, t1, t2] args.toList ds ps) :
    ∃ v0 v1 v2 d0 d1 d2 p0 p1 p2, args = #[v0, v1, v2] ∧ ds = [d0, d1, d2] ∧ ps = p0 ++ p1 ++ p2 ∧ DataW.Trod enc P w base spare held t0 v0 d0 p0 ∧ DataW.Trod enc P w base spare held t1 v1 d1 p1 ∧ DataW.Trod enc P w base spare held t2 v2 d2 p2 := by
  obtain ⟨v0, vs0, d0, ds0, p0, q0, hargs, rfl, rfl, h0, h⟩ := trodAll_cons h
  obtain ⟨v1, vs1, d1, ds1, p1, q1, rfl, rfl, rfl, h1, h⟩ := trodAll_cons h
  obtain ⟨v2, vs2, d2, ds2, p2, q2, rfl, rfl, rfl, h2, h⟩ := trodAll_cons h
  obtain ⟨rfl, rfl, rfl⟩ := trodAll_nil h
  exact ⟨v0, v1, v2, d0, d1, d2, p0, p1, p2, by cases args; simp_all, rfl, by simp, h0, h1, h2⟩

theorem door_met (os : Os) (args : Array Value) : laidMetH Tryd.prog Rows.ledgerHistoryRow.laid ((World.doorLaid Tryd.prog 400 os).forCall (fun _ _ => 0) ⟨#[], args, []⟩).memory :=
  laidMetH_of_parts3 (fuel := 8) (laidMet_of_run' 8 (by kernel_rfl) (by kernel_rfl)) (by kernel_rfl) (by kernel_rfl)

set_option maxRecDepth 100000 in
theorem law_lifted (os : Os) (started : os.Started) (H : Type) (enc : TypeId × Value → H) :
    ReturnsInHanded {} Tryd.checked os 8 .any (fun w args => (Rows.ledgerHistorySpec.pre enc Tryd.prog Tryd.f8 Rows.ledgerHistoryRow.domain false w args ∧ laidMetH Tryd.prog Rows.ledgerHistoryRow.laid w) ∧ sizedMet enc Tryd.prog Tryd.f8 (OpenSpec.ofChange Rows.ledgerHistorySpec) false w args) (Rows.ledgerHistorySpec.post enc Tryd.prog Tryd.f8 false true false false) := by
  refine lawTrueLaid (C := Tryd.checked) (tb := 4) df_own started (by kernel_rfl) Tryd.func8 df_laid rfl ?_ rfl Tryd.underlying4 (by kernel_rfl)
    (ChangeSpec.witness_shaped (enc := enc) (C := Tryd.checked) (os := os) (X := fun w _ => laidMetH Tryd.prog Rows.ledgerHistoryRow.laid w) false (World.doorLaid Tryd.prog 400 os) #[.slice none 0 0, .int .i64 0, .slice none 0 0] 8 rfl (World.shaped_of_RefB (by kernel_rfl) (by kernel_rfl)) (by kernel_rfl) (by kernel_rfl) (by kernel_rfl) (door_met os _)) ?_
  · intro ds hd
    match ds, hd with
    | [_, _, _], _ => exact ⟨rfl, rfl, rfl⟩
  · intro W base args ds p hval0 hA0 _ hL
    have hval : ∀ (j : Nat) t v, Tryd.f8.params[j]? = some t → args[j]? = some v → Value.okWide Tryd.prog W .any base t v := hval0
    have hA : DataW.TrodAll enc Tryd.prog W 0 (fun _ => true) true Tryd.f8.params.toList args.toList ds p := hA0
    rw [Tryd.params8] at hA hval
    obtain ⟨v0, v1, v2, d0, d1, d2, p0, p1, p2, rfl, rfl, rfl, h0, h1, h2⟩ := trodAll_n hA
    obtain ⟨lp, lc, l, rfl, la, lb, s0⟩ := open_sl (α := PushD) 12 Tryd.underlying49 (hval 0 49 v0 rfl rfl) (by kernel_rfl) h0
    obtain ⟨time, rfl, rfl, rfl, timew⟩ := open_int Tryd.underlying3 (hval 1 3 v1 rfl rfl) h1
    obtain ⟨rowp, rowc, row, rfl, rowa, rowb, s2⟩ := open_sl (α := ValD) 12 Tryd.underlying40 (hval 2 40 v2 rfl rfl) (by kernel_rfl) h2
    have st0 : Stable (fun M w => Sl M w rowp row) := inferInstance
    have st1 : Stable (fun M w => Sl M w lp l ∧ Sl M w rowp row) := instStableAnd (fun M w => Sl M w lp l) (fun M w => Sl M w rowp row)
    have st2 : Stable (fun M w => TabI M w ∧ Sl M w lp l ∧ Sl M w rowp row) := instStableAnd (fun M w => TabI M w) (fun M w => Sl M w lp l ∧ Sl M w rowp row)
    have fin : GivesIn (fun M w => TabI M w ∧ Sl M w lp l ∧ Sl M w rowp row) Tryd.prog 8 _ (.bool true) := History_in (Φ := (fun M w => TabI M w ∧ Sl M w lp l ∧ Sl M w rowp row)) (p := lp) (cap := lc) (l := l) (time := time) (r := rowp) (cap2 := rowc) (row := row) (hT := ⟨fun _ _ h => h.1⟩) (hL := ⟨fun _ _ h => h.2.1⟩) (by omega) (hR := ⟨fun _ _ h => h.2.2⟩) (by omega)
    exact fin.law ⟨la_tab 2 hL (by kernel_rfl) ⟨_, rfl⟩, s0, s2⟩

theorem row_holds : Rows.LedgerHistorySaid :=
  OpenClaim.holds_of_wide 8 Tryd.f8 rfl rfl rfl rfl rfl rfl rfl ⟨rfl, rfl, rfl, rfl, rfl⟩ rfl rfl rfl rfl rfl (by kernel_rfl) Tryd.func8 (by kernel_rfl)
    (of_decide_eq_true (by kernel_rfl)) (by unfold Func.isWrapper; first | (rw [if_pos (by decide +kernel)]; kernel_rfl) | (rw [if_neg (by decide +kernel)]; exact ⟨rfl, rfl⟩))
    (fun os started H enc _ => law_lifted os started H enc)

theorem hist_holds : Rows.LedgerHistoryCardSaid :=
  Claim7.holds_tied_plain_at .later [] [.data, .data, .data] true Rows.ledgerHistoryCard.stood.harness true
    row_holds (fun _ h => by cases h) (by kernel_rfl) (fun _ h => by cases h) ledgerHistory_row_tie rfl ⟨rfl, rfl⟩ (by kernel_rfl) rfl
    (fun f fn hf hfn => by
      obtain rfl : f = 8 := Option.some.inj ((show Tryd.prog.funcNamed Rows.ledgerHistoryRow.func = some 8 by kernel_rfl).symm.trans hf) |>.symm
      obtain rfl : fn = Tryd.f8 := (Option.some.inj (Tryd.func8.symm.trans hfn)).symm
      exact ⟨by kernel_rfl, fun j t ht => by
        rw [Tryd.params8] at ht
        have hm := Array.mem_of_getElem? ht
        have hall : ((Tryd.f8.params.toList).all fun u => !Tryd.prog.wantsStandIn u) = true := by kernel_rfl
        rw [Tryd.params8] at hall
        exact (show Tryd.prog.wantsStandIn t = false by simpa using List.all_eq_true.1 hall t (by simpa using hm))⟩)
    (by kernel_rfl)

end Go.Proofs.YtbkpfhhhbhaecaaDoor
end

