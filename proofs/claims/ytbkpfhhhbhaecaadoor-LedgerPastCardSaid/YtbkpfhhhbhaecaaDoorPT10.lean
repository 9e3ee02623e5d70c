/-
  For every input erratalaw41.LedgerPast returns true, does not panic, comes to an end, and leaves what came in as it was; the variables that its row lists are as the program's text lays them.
  Conditions: none beyond the given statement's own (LedgerPastCardSaid).
-/
import Derived.Test.YtbkpfhhhbhaecaaDoorPT9
import Derived.Shelf.SlMaps.Clone
import Derived.Test.YtbkpfhhhbhaecaaDoorPT8
import Derived.Test.YtbkpfhhhbhaecaaDoorCards
import Derived.MakeChecks
import Derived.Stop.LaidErr
import Derived.Lib.LaidTab
import Derived.Test.YtbkpfhhhbhaecaaDoorTie
import Derived.SevenTiedAt
import Derived.LaidMore
import Derived.ChangeMaps5
import Derived.Test.YtbkpfhhhbhaecaaDoorRows

/-
  The examples of the law of ledgers, walked.
-/
section
set_option linter.unusedVariables false
set_option linter.unusedSimpArgs false
namespace Go.Proofs.YtbkpfhhhbhaecaaDoor
open Go.Vc


theorem Ctx.rev3 {W w : World} {S : List Own} {Φ : PW} [Stable Φ] {a b x : Own} (c : Ctx W w (a :: b :: x :: S) Φ) : Ctx W w (x :: b :: a :: S) Φ := c.perm (List.Perm.append_right S (List.reverse_perm [x, b, a]))
theorem line_s {M : List Nat} {w : World} {no b t n c : Int} {r : List ValD} {k : Nat} (hr : r.length = 1) (h : I64 no ∧ I64 b ∧ I64 t ∧ I64 n ∧ I64 c) (hs : Sl M w (some ⟨k, 0, none⟩) r) :
    Gv.rep M w [.int .i64 no, .int .i64 b, .int .i64 t, .slice (some ⟨k, 0, none⟩) 1 1, .int .i64 n, .int .i64 c, .int .i64 0] (⟨no, b, t, r, n, c, 0⟩ : LineD) := by
  have := rep_line (x := ⟨no, b, t, r, n, c, 0⟩) (p := some ⟨k, 0, none⟩) (c := 1) (M := M) (w := w) (by show r.length ≤ 1; omega) (by decide) ⟨h.1, h.2.1, h.2.2.1, h.2.2.2.1, h.2.2.2.2, by show I64 0; unfold I64; omega⟩ hs
  unfold LineD.cells at this
  simp only [hr] at this
  exact this
theorem delta_s {M : List Nat} {w : World} {t n : Int} {r : List ValD} {k : Nat} (hr : r.length = 1) (h : I64 t ∧ I64 n) (hs : Sl M w (some ⟨k, 0, none⟩) r) :
    Gv.rep M w [.int .i64 t, .slice (some ⟨k, 0, none⟩) 1 1, .int .i64 n] (⟨t, r, n⟩ : DeltaD) := by
  have := rep_delta (x := ⟨t, r, n⟩) (p := some ⟨k, 0, none⟩) (c := 1) (M := M) (w := w) (by show r.length ≤ 1; omega) (by decide) h.1 h.2 hs
  unfold DeltaD.cells at this
  simp only [hr] at this
  exact this
theorem s_s1 : LedS sT1 := ⟨by decide, by decide, by decide, by decide, by decide⟩
theorem s_s2 : LedS sT2 := ⟨by decide, by decide, by decide, by decide, by decide⟩
theorem s_cnt0 : CntOk ⟨[], []⟩ := fun k => ⟨Int.le_refl 0, by show (0 : Int) ≤ _; omega⟩

set_option maxHeartbeats 4000000 in
theorem small41_in {Φ : PW} [Stable Φ] [hT : Has Φ TabI] : GivesIn Φ Tryd.prog F.erratalaw41_small #[] (.bool true) := by
  refine gives_in (Berratalaw41_small_run) fun W R => ?_
  refine fun w G cx => New_to cx fun q hq st0 => Br.intro (fun h => by cases h) (fun _ => fun k9 k10 k11 w G cx => ?_)
  have cx := Ctx.rev3 (S := (LedO q ⟨[], []⟩ ++ R) ++ G) cx
  obtain ⟨ca, ha⟩ := Ctx.freezeBlk (α := ValD) (l := v7) cx (Elems.one v7_rep)
  have ca := ca.add (Ψ := fun M w => Sl M w (some ⟨k9, 0, none⟩) v7) ha
  obtain ⟨cb, hb⟩ := Ctx.freezeBlk (α := ValD) (l := v8) ca (Elems.one v8_rep)
  have cb := cb.add (Ψ := fun M w => Sl M w (some ⟨k10, 0, none⟩) v8) hb
  obtain ⟨cc, hc⟩ := Ctx.freezeBlk (α := LineD) (l := sL1) cb (Elems.one (line_s rfl (by unfold I64; decide) cb.phi.1.2))
  have cc := cc.add (Ψ := fun M w => Sl M w (some ⟨k11, 0, none⟩) sL1) hc
  clear cx ca ha cb hb hc
  refine Append_to (q := q) (st := ⟨[], []⟩) (L := sL1) (no := 1) (mark := 10) hq new_s s_cnt0 (by decide) (by decide) (by decide) cc (fun h => absurd s_c1 h) fun q1 _ hf1 hlb1 hq1 st1 => ?_
  clear cc
  have hc1 : CntOk sT1 := (check_ok s_c1).cnt hf1 s_cnt0
  have hq1 : LedQ q1 sT1 := hq1
  rw [← hlb1]
  refine fun k19 w G cx => ?_
  obtain ⟨cd, hd⟩ := Ctx.freezeBlk (α := LineD) (l := sL2) cx (Elems.two (cs := [.int .i64 2, .int .i64 3, .int .i64 5, .slice (some ⟨k9, 0, none⟩) 1 1, .int .i64 (-1), .int .i64 1, .int .i64 0]) (line_s rfl (by unfold I64; decide) (Ctx.has (Ψ := fun M w => Sl M w (some ⟨k9, 0, none⟩) v7) cx).phi) (line_s rfl (by unfold I64; decide) (Ctx.has (Ψ := fun M w => Sl M w (some ⟨k10, 0, none⟩) v8) cx).phi))
  have cd := cd.add (Ψ := fun M w => Sl M w (some ⟨k19, 0, none⟩) sL2) hd
  clear cx hd
  refine Append_to (q := q1) (st := sT1) (L := sL2) (no := 3) (mark := 20) hq1 s_s1 hc1 (by decide) (by decide) (by decide) cd (fun h => absurd s_c2 h) fun q2 _ hf2 hlb2 hq2 st2 => ?_
  clear cd
  have hc2 : CntOk sT2 := (check_ok s_c2).cnt hf2 hc1
  have hq2 : LedQ q2 sT2 := hq2
  rw [← hlb2]
  refine fun k27 w G cx => ?_
  obtain ⟨ce, he⟩ := Ctx.freezeBlk (α := LineD) (l := sL3) cx (Elems.one (line_s rfl (by unfold I64; decide) (Ctx.has (Ψ := fun M w => Sl M w (some ⟨k9, 0, none⟩) v7) cx).phi))
  have ce := ce.add (Ψ := fun M w => Sl M w (some ⟨k27, 0, none⟩) sL3) he
  clear cx he
  refine Append_to (q := q2) (st := sT2) (L := sL3) (no := 4) (mark := 20) hq2 s_s2 hc2 (by decide) (by decide) (by decide) ce (fun _ => ?_) fun q3 hz => absurd (hz.symm.trans s_c3) (by decide)
  clear ce
  rw [s_c3]
  refine fun w G cx => Causes_to (q := q2) (st := sT2) cx ?_
  clear cx
  refine Br.intro (fun _ => Br.intro (fun _ => Br.intro (fun _ => ?_) (fun h => absurd rfl (of_decide_eq_false h))) (fun h => absurd rfl (of_decide_eq_false h))) (fun h => absurd rfl (of_decide_eq_false h))
  have hcq := fun (Ψ : PW) (s : Stable Ψ) (h1 : Has Ψ TabI) (h2 : Has Ψ (fun M w => Sl M w (some ⟨k9, 0, none⟩) v7)) => Count_q (Φ := Ψ) (q := q2) (st := sT2) (t := 5) (r := v7) (p := some ⟨k9, 0, none⟩) (cap := 1) hq2 (by decide) (by decide)
  rw [s_cnt] at hcq
  refine fun w G cx => (hcq _ inferInstance inferInstance inferInstance).toI cx ?_
  clear cx hcq
  refine Br.intro (fun _ => Br.intro (fun _ => Br.intro (fun _ => Br.intro (fun _ => ?_) (fun h => absurd rfl (of_decide_eq_false h))) (fun h => absurd rfl (of_decide_eq_false h))) (fun h => absurd rfl (of_decide_eq_false h))) (fun h => absurd rfl (of_decide_eq_false h))
  have hnq := fun (Ψ : PW) (s : Stable Ψ) (h1 : Has Ψ (LF q2 sT2)) => Net_q (Φ := Ψ) (q := q2) (st := sT2) hq2 s_s2
  rw [s_net] at hnq
  refine fun w G cx => (hnq _ inferInstance inferInstance).tot cx fun p1 c1 _ _ _ st3 => ?_
  clear cx hnq
  refine fun k60 w G cx => ?_
  obtain ⟨cf, hf⟩ := Ctx.freezeBlk (α := DeltaD) (l := [⟨5, v7, 1⟩, ⟨12, v8, 1⟩]) cx (Elems.two (cs := [.int .i64 5, .slice (some ⟨k9, 0, none⟩) 1 1, .int .i64 1]) (delta_s rfl (by unfold I64; decide) (Ctx.has (Ψ := fun M w => Sl M w (some ⟨k9, 0, none⟩) v7) cx).phi) (delta_s rfl (by unfold I64; decide) (Ctx.has (Ψ := fun M w => Sl M w (some ⟨k10, 0, none⟩) v8) cx).phi))
  have cf := cf.add (Ψ := fun M w => Sl M w (some ⟨k60, 0, none⟩) ([⟨5, v7, 1⟩, ⟨12, v8, 1⟩] : List DeltaD)) hf
  clear cx hf
  refine (EqualH (a := [⟨5, v7, 1⟩, ⟨12, v8, 1⟩]) (b := [⟨5, v7, 1⟩, ⟨12, v8, 1⟩]) (p := p1) (cap := c1) (r := some ⟨k60, 0, none⟩) (cap2 := 2) (by decide)).toB cf ?_
  clear cf
  rw [decide_eq_true rfl]
  refine Br.intro (fun _ => ?_) (fun h => by cases h)
  have haq := fun (Ψ : PW) (s : Stable Ψ) (h1 : Has Ψ (LF q2 sT2)) => At_q (Φ := Ψ) (q := q2) (st := sT2) (no := 1) hq2 s_s2
  rw [s_at] at haq
  refine fun w G cx => (haq _ inferInstance inferInstance).tot cx fun p2 c2 _ _ _ st4 => ?_
  clear cx haq
  refine fun k77 w G cx => ?_
  obtain ⟨cg, hg⟩ := Ctx.freezeBlk (α := DeltaD) (l := [⟨5, v7, 2⟩]) cx (Elems.one (delta_s rfl (by unfold I64; decide) (Ctx.has (Ψ := fun M w => Sl M w (some ⟨k9, 0, none⟩) v7) cx).phi))
  have cg := cg.add (Ψ := fun M w => Sl M w (some ⟨k77, 0, none⟩) ([⟨5, v7, 2⟩] : List DeltaD)) hg
  clear cx hg
  refine (EqualH (a := [⟨5, v7, 2⟩]) (b := [⟨5, v7, 2⟩]) (p := p2) (cap := c2) (r := some ⟨k77, 0, none⟩) (cap2 := 1) (by decide)).toB cg ?_
  clear cg
  rw [decide_eq_true rfl]
  exact fun w G cx => ⟨rfl, Ctx.has (Ctx.right (S := LedO q2 sT2) (cx.re (List.append_assoc _ _ _))).left⟩
end Go.Proofs.YtbkpfhhhbhaecaaDoor
end

/-
  The step 'fitted(l[i], a.Last(), a.Mark(), a.Next())' of the laws of ledgers (printed by fittree.py).
-/
section
set_option linter.unusedVariables false
set_option linter.unusedSimpArgs false
namespace Go.Proofs.YtbkpfhhhbhaecaaDoor
open Go.Vc

def FitTree (lP : Option Addr) (lN : Nat) (n13 : Int) (p4 : Option Addr) (W : World) (R14 : List Own) (I15 : PW) (I19 : Nat → Nat → List Own → PW → Prop) : Prop :=
  ∃ (R20 : List Own), ∃ (Φ21 : PW), Stable Φ21 ∧ (∀ (w22 : World) (R23 : List Own), Ctx W w22 (R14 ++ R23) I15 → Ctx W w22 (R20 ++ R23) Φ21) ∧ (0 ≤ n13 ∧
  n13 < (↑lN : Int)) ∧ ptrK none lP fun (k24 k25 : Nat) => ∃ (n26 : Int), ∃ (n27 : Int), ∃ (p28 : Option Addr), ∃ (k29 : Nat), ∃ (k30 : Nat), ∃ (c31 : Bool),
  (∀ (w32 : World) (R33 : List Own), Ctx W w32 (R20 ++ R33) Φ21 → ∃ (n34 : Int), ∃ (n35 : Int), ∃ (p36 : Option Addr), ∃ (k37 : Nat), ∃ (k38 : Nat), ∃ (c39
  : Bool), RowAt w32 k24 (k25 + n13.toNat * 4) [Value.int IntKind.i64 n34, Value.int IntKind.i64 n35, Value.slice p36 k37 k38, Value.bool c39] ∧ Value.agg
  #[Value.int IntKind.i64 n34, Value.int IntKind.i64 n35, Value.slice p36 k37 k38, Value.bool c39] = Value.agg #[Value.int IntKind.i64 n26, Value.int IntKind.i64
  n27, Value.slice p28 k29 k30, Value.bool c31]) ∧ (∀ (w40 : World) (R41 : List Own), Ctx W w40 (R14 ++ R41) I15 → Calls Tryd.prog F.ledger_Ledger_Last #[Value.pointer
  p4] w40 fun (e42 : Ending) (w43 : World) => ∃ (n44 : Int), e42 = Ending.returned (Value.int IntKind.i64 n44) ∧ ∃ (R45 : List Own), ∃ (Φ46 : PW), Stable
  Φ46 ∧ Ctx W w43 (R45 ++ R41) Φ46 ∧ (∀ (w47 : World) (R48 : List Own), Ctx W w47 (R45 ++ R48) Φ46 → Ctx W w47 (R20 ++ R48) Φ21) ∧ (∀ (w49 : World) (R50
  : List Own), Ctx W w49 (R45 ++ R50) Φ46 → Calls Tryd.prog F.ledger_Ledger_Mark #[Value.pointer p4] w49 fun (e51 : Ending) (w52 : World) => ∃ (n53 : Int),
  e51 = Ending.returned (Value.int IntKind.i64 n53) ∧ ∃ (R54 : List Own), ∃ (Φ55 : PW), Stable Φ55 ∧ Ctx W w52 (R54 ++ R50) Φ55 ∧ (∀ (w56 : World) (R57 :
  List Own), Ctx W w56 (R54 ++ R57) Φ55 → Ctx W w56 (R20 ++ R57) Φ21) ∧ (∀ (w58 : World) (R59 : List Own), Ctx W w58 (R54 ++ R59) Φ55 → Calls Tryd.prog F.ledger_Ledger_Next
  #[Value.pointer p4] w58 fun (e60 : Ending) (w61 : World) => ∃ (n62 : Int), e60 = Ending.returned (Value.int IntKind.i64 n62) ∧ ∃ (R63 : List Own), ∃ (Φ64
  : PW), Stable Φ64 ∧ Ctx W w61 (R63 ++ R59) Φ64 ∧ (∀ (w65 : World) (R66 : List Own), Ctx W w65 (R63 ++ R66) Φ64 → Ctx W w65 (R20 ++ R66) Φ21) ∧ (∀ (w67
  : World) (R68 : List Own), Ctx W w67 (R63 ++ R68) Φ64 → Calls Tryd.prog F.erratalaw41_fitted #[Value.agg #[Value.int IntKind.i64 n26, Value.int IntKind.i64
  n27, Value.slice p28 k29 k30, Value.bool c31], Value.int IntKind.i64 n44, Value.int IntKind.i64 n53, Value.int IntKind.i64 n62] w67 fun (e69 : Ending)
  (w70 : World) => ∃ (n71 : Int), ∃ (n72 : Int), ∃ (p73 : Option Addr), ∃ (k74 : Nat), ∃ (k75 : Nat), ∃ (c76 : Bool), e69 = Ending.returned (Value.agg #[Value.int
  IntKind.i64 n71, Value.int IntKind.i64 n72, Value.slice p73 k74 k75, Value.bool c76]) ∧ ∃ (R77 : List Own), ∃ (Φ78 : PW), Stable Φ78 ∧ Ctx W w70 (R77 ++
  R68) Φ78 ∧ (∀ (w79 : World) (R80 : List Own), Ctx W w79 (R77 ++ R80) Φ78 → Ctx W w79 (R20 ++ R80) Φ21) ∧ (∀ (k81 : Nat), (∀ (w82 : World) (R83 : List Own),
  Ctx W w82 (Own.blk k81 [Value.int IntKind.i64 0, Value.int IntKind.i64 0, Value.slice none 0 0, Value.bool false] 60 :: R77 ++ R83) Φ78 → Ctx W w82 (R20
  ++ R83) Φ21) ∧ ∀ (w84 : World) (R85 : List Own), Ctx W w84 (Own.blk k81 [Value.int IntKind.i64 0, Value.int IntKind.i64 0, Value.slice none 0 0, Value.bool
  false] 60 :: R77 ++ R85) Φ78 → CanWrite w84 k81 0 4 ∧ ∀ (w86 : World), w86 = w84.setCells k81 0 [Value.int IntKind.i64 n71, Value.int IntKind.i64 n72,
  Value.slice p73 k74 k75, Value.bool c76] → ∃ (R87 : List Own), ∃ (Φ88 : PW), Stable Φ88 ∧ Ctx W w86 (R87 ++ R85) Φ88 ∧ ∃ (R89 : List Own), ∃ (Φ90 : PW),
  Stable Φ90 ∧ (∀ (w91 : World) (R92 : List Own), Ctx W w91 (R87 ++ R92) Φ88 → Ctx W w91 (R89 ++ R92) Φ90) ∧ I19 k81 0 R89 Φ90) ∧ True) ∧ (∀ (k93 : Nat),
  (∀ (w94 : World) (R95 : List Own), Ctx W w94 (Own.blk k93 [Value.int IntKind.i64 0, Value.int IntKind.i64 0, Value.slice none 0 0, Value.bool false] 60
  :: R63 ++ R95) Φ64 → Ctx W w94 (R20 ++ R95) Φ21) ∧ (∀ (w96 : World) (R97 : List Own), Ctx W w96 (Own.blk k93 [Value.int IntKind.i64 0, Value.int IntKind.i64
  0, Value.slice none 0 0, Value.bool false] 60 :: R63 ++ R97) Φ64 → Calls Tryd.prog F.erratalaw41_fitted #[Value.agg #[Value.int IntKind.i64 n26, Value.int
  IntKind.i64 n27, Value.slice p28 k29 k30, Value.bool c31], Value.int IntKind.i64 n44, Value.int IntKind.i64 n53, Value.int IntKind.i64 n62] w96 fun (e98
  : Ending) (w99 : World) => ∃ (n100 : Int), ∃ (n101 : Int), ∃ (p102 : Option Addr), ∃ (k103 : Nat), ∃ (k104 : Nat), ∃ (c105 : Bool), e98 = Ending.returned
  (Value.agg #[Value.int IntKind.i64 n100, Value.int IntKind.i64 n101, Value.slice p102 k103 k104, Value.bool c105]) ∧ ∃ (R106 : List Own), ∃ (Φ107 : PW),
  Stable Φ107 ∧ Ctx W w99 (R106 ++ R97) Φ107 ∧ (∀ (w108 : World) (R109 : List Own), Ctx W w108 (R106 ++ R109) Φ107 → Ctx W w108 (R20 ++ R109) Φ21) ∧ ∀ (w110
  : World) (R111 : List Own), Ctx W w110 (R106 ++ R111) Φ107 → CanWrite w110 k93 0 4 ∧ ∀ (w112 : World), w112 = w110.setCells k93 0 [Value.int IntKind.i64
  n100, Value.int IntKind.i64 n101, Value.slice p102 k103 k104, Value.bool c105] → ∃ (R113 : List Own), ∃ (Φ114 : PW), Stable Φ114 ∧ Ctx W w112 (R113 ++
  R111) Φ114 ∧ ∃ (R115 : List Own), ∃ (Φ116 : PW), Stable Φ116 ∧ (∀ (w117 : World) (R118 : List Own), Ctx W w117 (R113 ++ R118) Φ114 → Ctx W w117 (R115 ++
  R118) Φ116) ∧ I19 k93 0 R115 Φ116) ∧ True) ∧ True) ∧ (∀ (k119 : Nat), (∀ (w120 : World) (R121 : List Own), Ctx W w120 (Own.blk k119 [Value.int IntKind.i64
  0, Value.int IntKind.i64 0, Value.slice none 0 0, Value.bool false] 60 :: R54 ++ R121) Φ55 → Ctx W w120 (R20 ++ R121) Φ21) ∧ (∀ (w122 : World) (R123 :
  List Own), Ctx W w122 (Own.blk k119 [Value.int IntKind.i64 0, Value.int IntKind.i64 0, Value.slice none 0 0, Value.bool false] 60 :: R54 ++ R123) Φ55 →
  Calls Tryd.prog F.ledger_Ledger_Next #[Value.pointer p4] w122 fun (e124 : Ending) (w125 : World) => ∃ (n126 : Int), e124 = Ending.returned (Value.int IntKind.i64
  n126) ∧ ∃ (R127 : List Own), ∃ (Φ128 : PW), Stable Φ128 ∧ Ctx W w125 (R127 ++ R123) Φ128 ∧ (∀ (w129 : World) (R130 : List Own), Ctx W w129 (R127 ++ R130)
  Φ128 → Ctx W w129 (R20 ++ R130) Φ21) ∧ (∀ (w131 : World) (R132 : List Own), Ctx W w131 (R127 ++ R132) Φ128 → Calls Tryd.prog F.erratalaw41_fitted #[Value.agg
  #[Value.int IntKind.i64 n26, Value.int IntKind.i64 n27, Value.slice p28 k29 k30, Value.bool c31], Value.int IntKind.i64 n44, Value.int IntKind.i64 n53,
  Value.int IntKind.i64 n126] w131 fun (e133 : Ending) (w134 : World) => ∃ (n135 : Int), ∃ (n136 : Int), ∃ (p137 : Option Addr), ∃ (k138 : Nat), ∃ (k139
  : Nat), ∃ (c140 : Bool), e133 = Ending.returned (Value.agg #[Value.int IntKind.i64 n135, Value.int IntKind.i64 n136, Value.slice p137 k138 k139, Value.bool
  c140]) ∧ ∃ (R141 : List Own), ∃ (Φ142 : PW), Stable Φ142 ∧ Ctx W w134 (R141 ++ R132) Φ142 ∧ (∀ (w143 : World) (R144 : List Own), Ctx W w143 (R141 ++ R144)
  Φ142 → Ctx W w143 (R20 ++ R144) Φ21) ∧ ∀ (w145 : World) (R146 : List Own), Ctx W w145 (R141 ++ R146) Φ142 → CanWrite w145 k119 0 4 ∧ ∀ (w147 : World),
  w147 = w145.setCells k119 0 [Value.int IntKind.i64 n135, Value.int IntKind.i64 n136, Value.slice p137 k138 k139, Value.bool c140] → ∃ (R148 : List Own),
  ∃ (Φ149 : PW), Stable Φ149 ∧ Ctx W w147 (R148 ++ R146) Φ149 ∧ ∃ (R150 : List Own), ∃ (Φ151 : PW), Stable Φ151 ∧ (∀ (w152 : World) (R153 : List Own), Ctx
  W w152 (R148 ++ R153) Φ149 → Ctx W w152 (R150 ++ R153) Φ151) ∧ I19 k119 0 R150 Φ151) ∧ True) ∧ True) ∧ True) ∧ (∀ (k154 : Nat), (∀ (w155 : World) (R156
  : List Own), Ctx W w155 (Own.blk k154 [Value.int IntKind.i64 0, Value.int IntKind.i64 0, Value.slice none 0 0, Value.bool false] 60 :: R45 ++ R156) Φ46
  → Ctx W w155 (R20 ++ R156) Φ21) ∧ (∀ (w157 : World) (R158 : List Own), Ctx W w157 (Own.blk k154 [Value.int IntKind.i64 0, Value.int IntKind.i64 0, Value.slice
  none 0 0, Value.bool false] 60 :: R45 ++ R158) Φ46 → Calls Tryd.prog F.ledger_Ledger_Mark #[Value.pointer p4] w157 fun (e159 : Ending) (w160 : World) =>
  ∃ (n161 : Int), e159 = Ending.returned (Value.int IntKind.i64 n161) ∧ ∃ (R162 : List Own), ∃ (Φ163 : PW), Stable Φ163 ∧ Ctx W w160 (R162 ++ R158) Φ163
  ∧ (∀ (w164 : World) (R165 : List Own), Ctx W w164 (R162 ++ R165) Φ163 → Ctx W w164 (R20 ++ R165) Φ21) ∧ (∀ (w166 : World) (R167 : List Own), Ctx W w166
  (R162 ++ R167) Φ163 → Calls Tryd.prog F.ledger_Ledger_Next #[Value.pointer p4] w166 fun (e168 : Ending) (w169 : World) => ∃ (n170 : Int), e168 = Ending.returned
  (Value.int IntKind.i64 n170) ∧ ∃ (R171 : List Own), ∃ (Φ172 : PW), Stable Φ172 ∧ Ctx W w169 (R171 ++ R167) Φ172 ∧ (∀ (w173 : World) (R174 : List Own),
  Ctx W w173 (R171 ++ R174) Φ172 → Ctx W w173 (R20 ++ R174) Φ21) ∧ (∀ (w175 : World) (R176 : List Own), Ctx W w175 (R171 ++ R176) Φ172 → Calls Tryd.prog
  F.erratalaw41_fitted #[Value.agg #[Value.int IntKind.i64 n26, Value.int IntKind.i64 n27, Value.slice p28 k29 k30, Value.bool c31], Value.int IntKind.i64
  n44, Value.int IntKind.i64 n161, Value.int IntKind.i64 n170] w175 fun (e177 : Ending) (w178 : World) => ∃ (n179 : Int), ∃ (n180 : Int), ∃ (p181 : Option
  Addr), ∃ (k182 : Nat), ∃ (k183 : Nat), ∃ (c184 : Bool), e177 = Ending.returned (Value.agg #[Value.int IntKind.i64 n179, Value.int IntKind.i64 n180, Value.slice
  p181 k182 k183, Value.bool c184]) ∧ ∃ (R185 : List Own), ∃ (Φ186 : PW), Stable Φ186 ∧ Ctx W w178 (R185 ++ R176) Φ186 ∧ (∀ (w187 : World) (R188 : List Own),
  Ctx W w187 (R185 ++ R188) Φ186 → Ctx W w187 (R20 ++ R188) Φ21) ∧ ∀ (w189 : World) (R190 : List Own), Ctx W w189 (R185 ++ R190) Φ186 → CanWrite w189 k154
  0 4 ∧ ∀ (w191 : World), w191 = w189.setCells k154 0 [Value.int IntKind.i64 n179, Value.int IntKind.i64 n180, Value.slice p181 k182 k183, Value.bool c184]
  → ∃ (R192 : List Own), ∃ (Φ193 : PW), Stable Φ193 ∧ Ctx W w191 (R192 ++ R190) Φ193 ∧ ∃ (R194 : List Own), ∃ (Φ195 : PW), Stable Φ195 ∧ (∀ (w196 : World)
  (R197 : List Own), Ctx W w196 (R192 ++ R197) Φ193 → Ctx W w196 (R194 ++ R197) Φ195) ∧ I19 k154 0 R194 Φ195) ∧ True) ∧ True) ∧ True) ∧ True) ∧ (∀ (k198
  : Nat), (∀ (w199 : World) (R200 : List Own), Ctx W w199 (Own.blk k198 [Value.int IntKind.i64 0, Value.int IntKind.i64 0, Value.slice none 0 0, Value.bool
  false] 60 :: R14 ++ R200) I15 → Ctx W w199 (R20 ++ R200) Φ21) ∧ (∀ (w201 : World) (R202 : List Own), Ctx W w201 (Own.blk k198 [Value.int IntKind.i64 0,
  Value.int IntKind.i64 0, Value.slice none 0 0, Value.bool false] 60 :: R14 ++ R202) I15 → Calls Tryd.prog F.ledger_Ledger_Last #[Value.pointer p4] w201
  fun (e203 : Ending) (w204 : World) => ∃ (n205 : Int), e203 = Ending.returned (Value.int IntKind.i64 n205) ∧ ∃ (R206 : List Own), ∃ (Φ207 : PW), Stable
  Φ207 ∧ Ctx W w204 (R206 ++ R202) Φ207 ∧ (∀ (w208 : World) (R209 : List Own), Ctx W w208 (R206 ++ R209) Φ207 → Ctx W w208 (R20 ++ R209) Φ21) ∧ (∀ (w210
  : World) (R211 : List Own), Ctx W w210 (R206 ++ R211) Φ207 → Calls Tryd.prog F.ledger_Ledger_Mark #[Value.pointer p4] w210 fun (e212 : Ending) (w213 :
  World) => ∃ (n214 : Int), e212 = Ending.returned (Value.int IntKind.i64 n214) ∧ ∃ (R215 : List Own), ∃ (Φ216 : PW), Stable Φ216 ∧ Ctx W w213 (R215 ++ R211)
  Φ216 ∧ (∀ (w217 : World) (R218 : List Own), Ctx W w217 (R215 ++ R218) Φ216 → Ctx W w217 (R20 ++ R218) Φ21) ∧ (∀ (w219 : World) (R220 : List Own), Ctx W
  w219 (R215 ++ R220) Φ216 → Calls Tryd.prog F.ledger_Ledger_Next #[Value.pointer p4] w219 fun (e221 : Ending) (w222 : World) => ∃ (n223 : Int), e221 = Ending.returned
  (Value.int IntKind.i64 n223) ∧ ∃ (R224 : List Own), ∃ (Φ225 : PW), Stable Φ225 ∧ Ctx W w222 (R224 ++ R220) Φ225 ∧ (∀ (w226 : World) (R227 : List Own),
  Ctx W w226 (R224 ++ R227) Φ225 → Ctx W w226 (R20 ++ R227) Φ21) ∧ (∀ (w228 : World) (R229 : List Own), Ctx W w228 (R224 ++ R229) Φ225 → Calls Tryd.prog
  F.erratalaw41_fitted #[Value.agg #[Value.int IntKind.i64 n26, Value.int IntKind.i64 n27, Value.slice p28 k29 k30, Value.bool c31], Value.int IntKind.i64
  n205, Value.int IntKind.i64 n214, Value.int IntKind.i64 n223] w228 fun (e230 : Ending) (w231 : World) => ∃ (n232 : Int), ∃ (n233 : Int), ∃ (p234 : Option
  Addr), ∃ (k235 : Nat), ∃ (k236 : Nat), ∃ (c237 : Bool), e230 = Ending.returned (Value.agg #[Value.int IntKind.i64 n232, Value.int IntKind.i64 n233, Value.slice
  p234 k235 k236, Value.bool c237]) ∧ ∃ (R238 : List Own), ∃ (Φ239 : PW), Stable Φ239 ∧ Ctx W w231 (R238 ++ R229) Φ239 ∧ (∀ (w240 : World) (R241 : List Own),
  Ctx W w240 (R238 ++ R241) Φ239 → Ctx W w240 (R20 ++ R241) Φ21) ∧ ∀ (w242 : World) (R243 : List Own), Ctx W w242 (R238 ++ R243) Φ239 → CanWrite w242 k198
  0 4 ∧ ∀ (w244 : World), w244 = w242.setCells k198 0 [Value.int IntKind.i64 n232, Value.int IntKind.i64 n233, Value.slice p234 k235 k236, Value.bool c237]
  → ∃ (R245 : List Own), ∃ (Φ246 : PW), Stable Φ246 ∧ Ctx W w244 (R245 ++ R243) Φ246 ∧ ∃ (R247 : List Own), ∃ (Φ248 : PW), Stable Φ248 ∧ (∀ (w249 : World)
  (R250 : List Own), Ctx W w249 (R245 ++ R250) Φ246 → Ctx W w249 (R247 ++ R250) Φ248) ∧ I19 k198 0 R247 Φ248) ∧ True) ∧ True) ∧ True) ∧ True) ∧ True
end Go.Proofs.YtbkpfhhhbhaecaaDoor
end

/-
  The step 'fitted(l[i], a.Last(), a.Mark(), a.Next())' of the laws of ledgers, walked.
-/
section
set_option linter.unusedVariables false
set_option linter.unusedSimpArgs false
namespace Go.Proofs.YtbkpfhhhbhaecaaDoor
open Go.Vc


section
variable {Φ : PW} {q : LP} {st : LedD} {W w : World} {Q R S G : List Own} {P : Program} {f : FuncId} {args : Array Value}

theorem perm_in {B : Own} : (B :: (Q ++ R) ++ G).Perm (Q ++ (B :: (R ++ G))) := by
  rw [List.cons_append, List.append_assoc]
  exact List.perm_middle.symm
theorem _root_.Go.Vc.GivesQ.toI1 [Stable Φ] {B : Own} {n : Int} {k : IntKind} (h : GivesQ Q Φ P f args (.int k n)) (c : Ctx W w ((B :: (Q ++ R)) ++ G) Φ) {K : Int → List Own → PW → Prop} (hk : K n (B :: (Q ++ R)) Φ) :
    Calls P f args w fun e w' => ∃ n, e = .returned (.int k n) ∧ ∃ R' Φ', Stable Φ' ∧ Ctx W w' (R' ++ G) Φ' ∧ K n R' Φ' :=
  (h.go W w (B :: (R ++ G)) (c.perm perm_in)).mono fun e w' ⟨he, c'⟩ => ⟨n, he, B :: (Q ++ R), Φ, inferInstance, c'.perm perm_in.symm, hk⟩

abbrev fitOf (st : LedD) (x : PushD) : PushD := fitP x (lastP st).no (lastP st).mark ((st.lines.length : Int) + 1)
abbrev zPush : List Value := [.int .i64 0, .int .i64 0, .slice none 0 0, .bool false]

set_option maxHeartbeats 4000000 in
theorem fit_tree [Stable Φ] {l : List PushD} {i : Nat} (hlt : i < l.length) {lP : Option Addr} {g o : Nat} {cs : List (List Value)} (hp : lP = some ⟨g, o, none⟩) (hPin : ∀ M w, Φ M w → Pin g o cs l M w) {r : Option Addr} {rc : Nat} (he : cs.getD i [] = l[i].cells r rc)
    (h1 : l[i].l.length ≤ rc) (h2 : rc ≤ maxLen) (hl : l[i].l.length ≤ 100000) (hq : LedQ q st) (hs : LedS st) (hm : -1 ≤ (lastP st).mark ∧ (lastP st).mark ≤ 1099511627776) {K : Nat → Nat → List Own → PW → Prop}
    (hK : ∀ kb p' c', (fitOf st l[i]).l.length ≤ c' → c' ≤ maxLen → There p' (fitOf st l[i]).l.length → Stable (fun M w => Φ M w ∧ Sl M w p' (fitOf st l[i]).l) → K kb 0 (LedO q st ++ (.blk kb ((fitOf st l[i]).cells p' c') 60 :: R)) (fun M w => Φ M w ∧ Sl M w p' (fitOf st l[i]).l)) :
    FitTree lP l.length (i : Int) (some ⟨q.lb, 0, none⟩) W (LedO q st ++ R) Φ K := by
  have hsl := hs.lines
  have hh : Has Φ (fun M w => Sl M w r l[i].l) := ⟨fun M w h => pinp_sl (hPin M w h) hlt he⟩
  have fin1 : ∀ {kb : Nat} {p' : Option Addr} {c' : Nat}, (fitOf st l[i]).l.length ≤ c' → c' ≤ maxLen → There p' (fitOf st l[i]).l.length → Stable (fun M w => Φ M w ∧ Sl M w p' (fitOf st l[i]).l) → ∀ {w : World} {G : List Own}, Ctx W w ((.blk kb zPush 60 :: (LedO q st ++ R)) ++ G) (fun M w => Φ M w ∧ Sl M w p' (fitOf st l[i]).l) →
      CanWrite w kb 0 4 ∧ ∀ w2, w2 = w.setCells kb 0 ((fitOf st l[i]).cells p' c') → ∃ R1 Φ1, Stable Φ1 ∧ Ctx W w2 (R1 ++ G) Φ1 ∧ ∃ R2 Φ2, Stable Φ2 ∧ (∀ w F, Ctx W w (R1 ++ F) Φ1 → Ctx W w (R2 ++ F) Φ2) ∧ K kb 0 R2 Φ2 := fun {kb p' c'} k1 k2 k3 k4 {w G} cx =>
    ⟨cx.can 0 rfl (by show 0 + 4 ≤ 4; decide), fun w2 e => ⟨.blk kb ((fitOf st l[i]).cells p' c') 60 :: (LedO q st ++ R), _, k4, cx.puts 0 e rfl, LedO q st ++ (.blk kb ((fitOf st l[i]).cells p' c') 60 :: R), _, k4, fun w F c => Ctx.outl (Q := LedO q st) (R := .blk kb ((fitOf st l[i]).cells p' c') 60 :: R) (G := F) (Ctx.perm c perm_in), hK kb p' c' k1 k2 k3 k4⟩⟩
  have fitA : ∀ {R0 G : List Own} {w : World} {K : Int → Int → Option Addr → Nat → Nat → Bool → List Own → PW → Prop}, Ctx W w (R0 ++ G) Φ → (∀ p' c', (fitOf st l[i]).l.length ≤ c' → c' ≤ maxLen → There p' (fitOf st l[i]).l.length → Stable (fun M w => Φ M w ∧ Sl M w p' (fitOf st l[i]).l) → K (fitOf st l[i]).batch (fitOf st l[i]).mark p' (fitOf st l[i]).l.length c' (fitOf st l[i]).fit R0 (fun M w => Φ M w ∧ Sl M w p' (fitOf st l[i]).l)) →
      Calls Tryd.prog F.erratalaw41_fitted #[l[i].v r rc, .int .i64 (lastP st).no, .int .i64 (lastP st).mark, .int .i64 ((st.lines.length : Int) + 1)] w fun e w' => ∃ a b p' k c' f, e = .returned (.agg #[.int .i64 a, .int .i64 b, .slice p' k c', .bool f]) ∧ ∃ R' Φ', Stable Φ' ∧ Ctx W w' (R' ++ G) Φ' ∧ K a b p' k c' f R' Φ' := fun {R0 G w K} cx h =>
    fitted_to (x := l[i]) (R := R0) h1 h2 hl hm (by omega) cx h
  unfold FitTree
  refine ⟨LedO q st ++ R, Φ, inferInstance, fun w G c => c, by omega, ptrK_intro g o hp ⟨l[i].batch, l[i].mark, r, l[i].l.length, rc, l[i].fit, fun w G cx => ⟨_, _, _, _, _, _, by rw [Int.toNat_natCast]; exact pinp_rowAt (hPin _ _ cx.phi) hlt he, rfl⟩, ?_⟩⟩
  refine ⟨fun w G cx => (Last_q hq hs).toI cx ⟨fun w G c => c, ⟨fun w G cx => (Mark_q hq hs).toI cx ⟨fun w G c => c, ⟨fun w G cx => (Next_q hs).toI cx ⟨fun w G c => c, ?A, ?B⟩, ?C⟩⟩, ?D⟩⟩, ?E⟩
  case A => exact fun w G cx => fitA cx fun p' c' k1 k2 k3 k4 => ⟨fun w G c => c.fst, fun kb => ⟨fun w G c => Ctx.drop1 c.fst, fun w G cx => fin1 k1 k2 k3 k4 cx⟩, trivial⟩
  case B => exact ⟨fun kb => ⟨fun w G c => Ctx.drop1 c, fun w G cx => fitA cx fun p' c' k1 k2 k3 k4 => ⟨fun w G c => Ctx.drop1 c.fst, fun w G cx => fin1 k1 k2 k3 k4 cx⟩, trivial⟩, trivial⟩
  case C => exact ⟨fun kb => ⟨fun w G c => Ctx.drop1 c, fun w G cx => (Next_q hs).toI1 cx ⟨fun w G c => Ctx.drop1 c, fun w G cx => fitA cx fun p' c' k1 k2 k3 k4 => ⟨fun w G c => Ctx.drop1 c.fst, fun w G cx => fin1 k1 k2 k3 k4 cx⟩, trivial⟩, trivial⟩, trivial⟩
  case D => exact ⟨fun kb => ⟨fun w G c => Ctx.drop1 c, fun w G cx => (Mark_q hq hs).toI1 cx ⟨fun w G c => Ctx.drop1 c, fun w G cx => (Next_q hs).toI1 cx ⟨fun w G c => Ctx.drop1 c, fun w G cx => fitA cx fun p' c' k1 k2 k3 k4 => ⟨fun w G c => Ctx.drop1 c.fst, fun w G cx => fin1 k1 k2 k3 k4 cx⟩, trivial⟩, trivial⟩, trivial⟩, trivial⟩
  case E => exact ⟨fun kb => ⟨fun w G c => Ctx.drop1 c, fun w G cx => (Last_q hq hs).toI1 cx ⟨fun w G c => Ctx.drop1 c, fun w G cx => (Mark_q hq hs).toI1 cx ⟨fun w G c => Ctx.drop1 c, fun w G cx => (Next_q hs).toI1 cx ⟨fun w G c => Ctx.drop1 c, fun w G cx => fitA cx fun p' c' k1 k2 k3 k4 => ⟨fun w G c => Ctx.drop1 c.fst, fun w G cx => fin1 k1 k2 k3 k4 cx⟩, trivial⟩, trivial⟩, trivial⟩, trivial⟩, trivial⟩
end
end Go.Proofs.YtbkpfhhhbhaecaaDoor
end

/-
  The law PlaceKeys, walked.
-/
section
set_option linter.unusedVariables false
set_option linter.unusedSimpArgs false
namespace Go.Proofs.YtbkpfhhhbhaecaaDoor
open Go.Vc


section
variable {Φ : PW} {p q : Option Addr} {cap cap2 : Nat} {a b : List ValD}

theorem short_out {r : List ValD} {n : Int} (h : shortB r n = true) : (∀ v ∈ r, v.text.size ≤ 300) ∧ (r.length : Int) ≤ n := by
  unfold shortB at h
  rw [Bool.and_eq_true] at h
  exact ⟨fun v hv => of_decide_eq_true (List.all_eq_true.1 h.1 v hv), of_decide_eq_true h.2⟩
end
end Go.Proofs.YtbkpfhhhbhaecaaDoor
end

/-
  The law LedgerSums, in plain Lean.
-/
section
set_option linter.unusedVariables false
set_option linter.unusedSimpArgs false
namespace Go.Proofs.YtbkpfhhhbhaecaaDoor
open Go.Vc


/-- what holds of a ledger at any time -/
structure Inv (st : LedD) : Prop where
  cnt : CntOk st
  bats : BatsOk st
  time : ∀ x ∈ st.lines, x.time ≤ (lastP st).mark
  mark : -1 ≤ (lastP st).mark ∧ (lastP st).mark ≤ 1099511627776
  fit : RowsFit st.lines

theorem last_app (st : LedD) (no mark : Int) (L : List LineD) : lastP (appP st no mark L) = ⟨no, mark, (st.lines ++ L).length⟩ := by
  unfold lastP appP
  rw [List.getLast?_append]; rfl
theorem Inv.start : Inv ⟨[], []⟩ where
  cnt := s_cnt0
  bats := ⟨fun i h => by simp at h, by simp⟩
  time := by simp
  mark := by decide
  fit := fun x hx => by simp at hx
theorem Inv.app {st : LedD} {no mark : Int} {L : List LineD} (h : Inv st) (hs : LedS st) (ac : AccB st no mark L) (hf : RowsFit L) (h1 : I64 no) : Inv (appP st no mark L) where
  cnt := ac.cnt hf h.cnt
  bats := app_bats hs h.bats h1 (by have := h.mark; have := ac.gmark; have := ac.most; unfold I64; omega)
  time := fun x hx => by
    rw [last_app]
    show x.time ≤ mark
    rcases List.mem_append.1 hx with hx | hx
    · have := h.time x hx; have := ac.gmark; omega
    · obtain ⟨_, g⟩ := ac.mem hx
      exact g.t1
  mark := by
    rw [last_app]
    show -1 ≤ mark ∧ mark ≤ _
    have := h.mark; have := ac.gmark; have := ac.most; omega
  fit := fun x hx => by
    rcases List.mem_append.1 hx with hx | hx
    · exact h.fit x hx
    · exact hf x hx

theorem few_out {l : List PushD} {n : Int} (h : fewL l n = true) : (l.length : Int) ≤ n ∧ ∀ x ∈ l, x.l.length ≤ 12 ∧ (∀ y ∈ x.l, y.row.length ≤ 13 ∧ ∀ v ∈ y.row, v.text.size ≤ 300) := by
  unfold fewL at h
  rw [Bool.and_eq_true] at h
  refine ⟨of_decide_eq_true h.2, fun x hx => ?_⟩
  have h1 := List.all_eq_true.1 h.1 x hx
  unfold shortL at h1
  rw [Bool.and_eq_true] at h1
  have h2 := of_decide_eq_true h1.2
  refine ⟨by omega, fun y hy => ?_⟩
  obtain ⟨g1, g2⟩ := short_out (List.all_eq_true.1 h1.1 y hy)
  exact ⟨by omega, g1⟩
end Go.Proofs.YtbkpfhhhbhaecaaDoor
end

/-
  The law LedgerSums, walked.
-/
section
set_option linter.unusedVariables false
set_option linter.unusedSimpArgs false
namespace Go.Proofs.YtbkpfhhhbhaecaaDoor
open Go.Vc


section
variable {Φ : PW} {q : LP} {st : LedD} {W w : World} {R S G : List Own} {p : Option Addr} {cap : Nat}

/-- what lies beside the ledger is let go -/
theorem drop_mid [Stable Φ] {B : Own} (c : Ctx W w ((LedO q st ++ (B :: R)) ++ G) Φ) : Ctx W w ((LedO q st ++ R) ++ G) Φ :=
  c.sub (List.Sublist.append (List.Sublist.append (List.Sublist.refl _) (List.sublist_cons_self B R)) (List.Sublist.refl G))

end
end Go.Proofs.YtbkpfhhhbhaecaaDoor
end

/-
  Line, Batch, History and made, walked; lines that are the same.
-/
section
set_option linter.unusedVariables false
set_option linter.unusedSimpArgs false
namespace Go.Proofs.YtbkpfhhhbhaecaaDoor
open Go.Vc


/-! ### plain -/
def sameL (x y : LineD) : Bool := decide (x.no = y.no) && decide (x.batch = y.batch) && decide (x.time = y.time) && decide (x.n = y.n) && decide (x.cause = y.cause) && decide (x.why = y.why) && decide (cmpR x.row y.row = 0)
theorem sameL_refl (x : LineD) : sameL x x = true := by unfold sameL; simp [cmpR_cmp.refl]
def sameLs (a b : List LineD) : Bool := decide (a.length = b.length) && (a.zip b).all fun x => sameL x.1 x.2
theorem sameLs_refl (a : List LineD) : sameLs a a = true := by
  unfold sameLs
  rw [decide_eq_true rfl, Bool.true_and]
  refine List.all_eq_true.2 fun x hx => ?_
  have : x.1 = x.2 := by
    obtain ⟨i, hi, rfl⟩ := List.getElem_of_mem hx
    rw [List.getElem_zip]
  rw [this]; exact sameL_refl _
def isAt (t : Int) (r : List ValD) (x : LineD) : Bool := decide (x.time = t) && decide (x.row = r)
def histP (l : List LineD) (t : Int) (r : List ValD) : List LineD := l.filter (isAt t r)

section
variable {Φ : PW} {q : LP} {st : LedD} {W w : World} {R S G : List Own} {p r : Option Addr} {cap cap2 : Nat}

theorem Same03r_in [Stable Φ] {a b : List ValD} [hA : Has Φ (fun M w => Sl M w p a)] [hB : Has Φ (fun M w => Sl M w r b)] (hlen : a.length ≤ 1000000) : GivesIn Φ Tryd.prog F.errataref03_Same #[.slice p a.length cap, .slice r b.length cap2] (.bool (decide (cmpR a b = 0))) :=
  gives_in (Berrataref03_Same_run p a.length cap r b.length cap2) fun W R => fun w G cx => (rCompareRows_in p r cap cap2 a b hA.go hB.go (by omega)).toI cx fun w G cx => ⟨rfl, cx.left⟩
theorem SameLine_in [Stable Φ] (x y : LineD) [hA : Has Φ (fun M w => Sl M w p x.row)] [hB : Has Φ (fun M w => Sl M w r y.row)] (hlen : x.row.length ≤ 1000000) : GivesIn Φ Tryd.prog F.errataref41_SameLine #[x.v p cap, y.v r cap2] (.bool (sameL x y)) := by
  refine gives_in (Berrataref41_SameLine_run x.no x.batch x.time p x.row.length cap x.n x.cause x.why y.no y.batch y.time r y.row.length cap2 y.n y.cause y.why) fun W R => fun _ _ => ?_
  unfold sameL
  refine Br.intro (fun h => ?_) (fun h => fun w G cx => ⟨by rw [h]; rfl, cx.left⟩)
  rw [h]
  refine Br.intro (fun h => ?_) (fun h => fun w G cx => ⟨by rw [h]; rfl, cx.left⟩)
  rw [h]
  refine Br.intro (fun h => ?_) (fun h => fun w G cx => ⟨by rw [h]; rfl, cx.left⟩)
  rw [h]
  refine Br.intro (fun h => ?_) (fun h => fun w G cx => ⟨by rw [h]; rfl, cx.left⟩)
  rw [h]
  refine Br.intro (fun h => ?_) (fun h => fun w G cx => ⟨by rw [h]; rfl, cx.left⟩)
  rw [h]
  refine Br.intro (fun h => ?_) (fun h => fun w G cx => ⟨by rw [h]; rfl, cx.left⟩)
  rw [h]
  exact fun w G cx => (Same03r_in (a := x.row) (b := y.row) hlen).toB cx fun w G cx => ⟨rfl, cx.left⟩

/-- lines that are handed back, with their cells -/
theorem _root_.Go.Vc.GivesQSl.src [Stable Φ] {Q : List Own} {f : FuncId} {args : Array Value} {l : List LineD} (h : GivesQSl Q Φ Tryd.prog f args l) (c : Ctx W w ((Q ++ R) ++ G) Φ) {K : Option Addr → Nat → Nat → List Own → PW → Prop}
    (hk : ∀ p cap cs, l.length ≤ cap → cap ≤ maxLen → There p l.length → Rows7 cs l → Stable (fun M w => Φ M w ∧ SrcF p l cs M w) → K p l.length cap (Q ++ R) (fun M w => Φ M w ∧ SrcF p l cs M w)) :
    Calls Tryd.prog f args w fun e w' => ∃ p n c, e = .returned (.slice p n c) ∧ ∃ R' Φ', Stable Φ' ∧ Ctx W w' (R' ++ G) Φ' ∧ K p n c R' Φ' :=
  (h.go W w (R ++ G) c.inl).mono fun e w' ⟨p, cap, he, h1, h2, c'⟩ => by
    obtain ⟨cs, c2⟩ := srcOf c' c'.phi.2
    have hst : Stable (fun M w => Φ M w ∧ SrcF p l cs M w) := instStableAnd Φ (fun M w => SrcF p l cs M w)
    exact ⟨p, _, cap, he, Q ++ R, _, hst, c2.outl.weak fun M w h => ⟨h.1.1, h.2⟩, hk p cap cs h1 h2 c'.phi.2.there (rows7 c2.phi.2.2) hst⟩

end
end Go.Proofs.YtbkpfhhhbhaecaaDoor
end

/-
  What holds of a ledger's lines and batches; made, walked.
-/
section
set_option linter.unusedVariables false
set_option linter.unusedSimpArgs false
namespace Go.Proofs.YtbkpfhhhbhaecaaDoor
open Go.Vc


/-! ### plain -/
structure Inv2 (st : LedD) : Prop where
  num : ∀ i (h : i < st.lines.length), st.lines[i].no = i + 1
  asc : st.bats.Pairwise fun a b => a.no < b.no
  full : begP st.bats st.bats.length = st.lines.length
  seg : ∀ i (h : i < st.lines.length), ∃ j, ∃ hj : j < st.bats.length, begP st.bats j ≤ i ∧ i < st.bats[j].stop ∧ st.bats[j].no = st.lines[i].batch
  cause : ∀ x ∈ st.lines, x.cause = 0 ∨ x.cause = 1 ∨ x.cause = 2

theorem last_max {l : List BatD} (h : l.Pairwise fun a b => a.no < b.no) (d : BatD) : ∀ b ∈ l, b.no ≤ (l.getLast?.getD d).no := fun b hb => by
  have hl : 0 < l.length := List.length_pos_of_mem hb
  rw [List.getLast?_eq_getElem?, List.getElem?_eq_getElem (by omega)]
  show b.no ≤ l[l.length - 1].no
  obtain ⟨i, hi, rfl⟩ := List.getElem_of_mem hb
  rcases Nat.lt_or_ge i (l.length - 1) with h1 | h1
  · have := List.pairwise_iff_getElem.1 h i (l.length - 1) hi (by omega) h1
    omega
  · have : i = l.length - 1 := by omega
    subst this
    exact Int.le_refl _
theorem begP_app {l : List BatD} {x : BatD} {i : Nat} (h : i ≤ l.length) : begP (l ++ [x]) i = begP l i := by
  unfold begP
  by_cases h0 : i = 0
  · rw [if_pos h0, if_pos h0]
  · rw [if_neg h0, if_neg h0, List.getElem?_append_left (by omega)]

theorem Inv2.start : Inv2 ⟨[], []⟩ where
  num := fun i h => by simp at h
  asc := List.Pairwise.nil
  full := rfl
  seg := fun i h => by simp at h
  cause := fun x hx => by simp at hx
theorem Inv2.app {st : LedD} {no mark : Int} {L : List LineD} (h : Inv2 st) (ac : AccB st no mark L) : Inv2 (appP st no mark L) where
  num := fun i hi => by
    have hi' : i < (st.lines ++ L).length := hi
    show (st.lines ++ L)[i].no = i + 1
    rw [List.length_append] at hi'
    by_cases hlt : i < st.lines.length
    · rw [List.getElem_append_left hlt]; exact h.num i hlt
    · rw [List.getElem_append_right (by omega)]
      have := (ac.at (i - st.lines.length) (by omega)).gno
      rw [this]; omega
  asc := by
    show (st.bats ++ [_]).Pairwise _
    refine List.pairwise_append.2 ⟨h.asc, List.pairwise_singleton _ _, fun a ha b hb => ?_⟩
    rw [List.mem_singleton.1 hb]
    have h1 := last_max h.asc ⟨0, -1, 0⟩ a ha
    have h2 := ac.gno
    unfold lastP at h2
    show a.no < no
    omega
  full := by
    show begP (st.bats ++ [(⟨no, mark, (st.lines ++ L).length⟩ : BatD)]) (st.bats ++ [_]).length = (st.lines ++ L).length
    have e : (st.bats ++ [(⟨no, mark, (st.lines ++ L).length⟩ : BatD)]).length = st.bats.length + 1 := by simp
    rw [e, begP_succ (by rw [e]; omega), List.getElem_append_right (Nat.le_refl _)]
    simp
  seg := fun i hi => by
    have hi' : i < (st.lines ++ L).length := hi
    show ∃ j, ∃ hj : j < (st.bats ++ [(⟨no, mark, (st.lines ++ L).length⟩ : BatD)]).length, begP (st.bats ++ [(⟨no, mark, (st.lines ++ L).length⟩ : BatD)]) j ≤ i ∧ i < (st.bats ++ [(⟨no, mark, (st.lines ++ L).length⟩ : BatD)])[j].stop ∧ (st.bats ++ [(⟨no, mark, (st.lines ++ L).length⟩ : BatD)])[j].no = (st.lines ++ L)[i].batch
    by_cases hlt : i < st.lines.length
    · obtain ⟨j, hj, g1, g2, g3⟩ := h.seg i hlt
      refine ⟨j, by rw [List.length_append]; omega, ?_, ?_, ?_⟩
      · rw [begP_app (by omega)]; exact g1
      · rw [List.getElem_append_left hj]; exact g2
      · rw [List.getElem_append_left hj, List.getElem_append_left hlt]; exact g3
    · rw [List.length_append] at hi'
      refine ⟨st.bats.length, by rw [List.length_append]; simp, ?_, ?_, ?_⟩
      · rw [begP_app (Nat.le_refl _), h.full]; omega
      · rw [List.getElem_append_right (Nat.le_refl _)]
        simp only [Nat.sub_self, List.getElem_cons_zero]
        rw [List.length_append]; omega
      · rw [List.getElem_append_right (Nat.le_refl _), List.getElem_append_right (by omega)]
        simp only [Nat.sub_self, List.getElem_cons_zero]
        exact (ac.at (i - st.lines.length) (by omega)).batch.symm
  cause := fun x hx => by
    rcases List.mem_append.1 hx with hx | hx
    · exact h.cause x hx
    · obtain ⟨_, g⟩ := ac.mem hx
      exact caused_cause g.caused

/-- a ledger after i pushes -/
structure LedI (i : Nat) (st : LedD) : Prop where
  s : LedS st
  v : Inv st
  w : Inv2 st
  n1 : st.lines.length ≤ 12 * i
  n2 : st.bats.length ≤ i
def okPush (x : PushD) : Prop := x.l.length ≤ 12 ∧ ∀ y ∈ x.l, y.row.length ≤ 13 ∧ ∀ v ∈ y.row, v.text.size ≤ 300
def stepP (st : LedD) (x : PushD) : LedD := if checkP st (fitOf st x).batch (fitOf st x).mark (fitOf st x).l = 0 then appP st (fitOf st x).batch (fitOf st x).mark (fitOf st x).l else st
def madeP (l : List PushD) : LedD := l.foldl stepP ⟨[], []⟩
theorem madeP_step {l : List PushD} {i : Nat} (h : i < l.length) : madeP (l.take (i + 1)) = stepP (madeP (l.take i)) l[i] := by
  unfold madeP
  rw [List.take_succ_eq_append_getElem h, List.foldl_append]; rfl

theorem LedI.start : LedI 0 ⟨[], []⟩ := ⟨new_s, Inv.start, Inv2.start, by simp, by simp⟩
theorem LedI.more {i : Nat} {st : LedD} (h : LedI i st) : LedI (i + 1) st := ⟨h.s, h.v, h.w, by have := h.n1; omega, by have := h.n2; omega⟩
theorem fit_ok {st : LedD} {x : PushD} (h : okPush x) : okPush (fitOf st x) := by
  refine ⟨by have := fitP_len x (lastP st).no (lastP st).mark ((st.lines.length : Int) + 1); have := h.1; show (fitP _ _ _ _).l.length ≤ 12; omega, fun y hy => ?_⟩
  obtain ⟨z, hz, e⟩ := fitP_row _ _ _ _ y hy
  rw [e]; exact h.2 z hz
theorem fit_i64 {st : LedD} {x : PushD} (h : I64 x.batch) : I64 (fitOf st x).batch := by
  unfold fitOf fitP
  split
  · exact w64_in _
  · exact h
theorem LedI.app {i : Nat} {st : LedD} (h : LedI i st) (hi : i ≤ 1000) {X : PushD} (hx : okPush X) (h64 : I64 X.batch) (hz : checkP st X.batch X.mark X.l = 0) (hf : RowsFit X.l) : LedI (i + 1) (appP st X.batch X.mark X.l) := by
  have ac := check_ok hz
  have h1 := h.n1
  have h2 := h.n2
  have h3 := hx.1
  refine ⟨app_s h.s (fun y hy => (hx.2 y hy).1) (fun y hy => (hx.2 y hy).2) (by rw [List.length_append]; omega) (by omega), h.v.app h.s ac hf h64, h.w.app ac, ?_, ?_⟩
  · show (st.lines ++ X.l).length ≤ _
    rw [List.length_append]; omega
  · show (st.bats ++ [_]).length ≤ _
    rw [List.length_append]; exact Nat.add_le_add_right h2 1

section
variable {Φ : PW} {q : LP} {st : LedD} {W w : World} {R S G : List Own} {p r : Option Addr} {cap cap2 : Nat}

/-- a push is fitted and appended: the ledger of the next step -/
theorem push_next [Stable Φ] [hT : Has Φ TabI] {i : Nat} (hq : LedQ q st) (hi : LedI i st) (hi2 : i ≤ 1000) {x : PushD} (hx : okPush x) (h64 : I64 x.batch) {px : Option Addr} {cx0 : Nat} [hL : Has Φ (fun M w => Sl M w px (fitOf st x).l)] [hF : Has Φ (LF q st)]
    (c : Ctx W w ((LedO q st ++ R) ++ G) Φ) {K : Int → List Own → PW → Prop}
    (h : ∀ n q', q'.lb = q.lb → LedQ q' (stepP st x) → LedI (i + 1) (stepP st x) → Stable (fun M w => Φ M w ∧ LF q' (stepP st x) M w) → K n (LedO q' (stepP st x) ++ R) (fun M w => Φ M w ∧ LF q' (stepP st x) M w)) :
    Calls Tryd.prog F.ledger_Ledger_Append #[led q, .int .i64 (fitOf st x).batch, .int .i64 (fitOf st x).mark, .slice px (fitOf st x).l.length cx0] w fun e w' => ∃ n, e = .returned (.int .i64 n) ∧ ∃ R' Φ', Stable Φ' ∧ Ctx W w' (R' ++ G) Φ' ∧ K n R' Φ' := by
  have hX := fit_ok (st := st) hx
  have h641 := fit_i64 (st := st) h64
  unfold stepP at h
  refine (Append_to (L := (fitOf st x).l) (no := (fitOf st x).batch) (mark := (fitOf st x).mark) hq hi.s hi.v.cnt (by have := hX.1; omega) (fun y hy => by have := (hX.2 y hy).1; omega) (fun y hy v hv => by have := (hX.2 y hy).2 v hv; omega) c (K := fun n R' Φ' => ∃ Φ2, Stable Φ2 ∧ (∀ M w, Φ' M w → Φ2 M w) ∧ K n R' Φ2) (fun hz => ?_) fun q' hz hf hlb hq' st3 => ?_).mono fun e w' ⟨n, he, R', Φ', hst, cx, Φ2, hst2, hw, hK⟩ => ⟨n, he, R', Φ2, hst2, cx.weak hw, hK⟩
  · have h := h (checkP st (fitOf st x).batch (fitOf st x).mark (fitOf st x).l) q rfl
    rw [if_neg hz] at h
    exact ⟨_, instStableAnd Φ (fun M w => LF q st M w), fun M w hh => ⟨hh, hF.go M w hh⟩, h hq hi.more (instStableAnd Φ (fun M w => LF q st M w))⟩
  · have h := h 0 q' hlb
    rw [if_pos hz] at h
    exact ⟨_, st3, fun M w hh => hh, h hq' (hi.app hi2 hX h641 hz hf) st3⟩

set_option maxHeartbeats 4000000 in
theorem made_to [Stable Φ] [hT : Has Φ TabI] {l : List PushD} {g o : Nat} {cs : List (List Value)} (hp : 0 < l.length → p = some ⟨g, o, none⟩) (hP : ∀ M w, Φ M w → Pin g o cs l M w) (hlen : l.length ≤ 1000) (hok : ∀ x ∈ l, okPush x) (c : Ctx W w (R ++ G) Φ) {K : Option Addr → List Own → PW → Prop}
    (hk : ∀ q, LedQ q (madeP l) → LedI l.length (madeP l) → Stable (fun M w => Φ M w ∧ LF q (madeP l) M w) → K (some ⟨q.lb, 0, none⟩) (LedO q (madeP l) ++ R) (fun M w => Φ M w ∧ LF q (madeP l) M w)) :
    Calls Tryd.prog F.erratalaw41_made #[.slice p l.length cap] w fun e w' => ∃ p, e = .returned (.pointer p) ∧ ∃ R' Φ', Stable Φ' ∧ Ctx W w' (R' ++ G) Φ' ∧ K p R' Φ' := by
  have hpc : ∀ j (hj : j < l.length), ∃ p c, cs.getD j [] = l[j].cells p c ∧ l[j].l.length ≤ c ∧ c ≤ maxLen ∧ I64 l[j].batch ∧ I64 l[j].mark := fun j hj => pin_push (hP _ _ c.phi) hj
  refine (Berratalaw41_made_run p l.length cap (R := R ++ G) (J := fun v w' => ∃ p, v = .pointer p ∧ ∃ R' Φ', Stable Φ' ∧ Ctx W w' (R' ++ G) Φ' ∧ K p R' Φ') c ?_).mono fun e w' ⟨v, he, p, hv, rest⟩ => ⟨p, by rw [he, hv], rest⟩
  clear c
  refine fun w G2 cx => New_to cx fun q0 hq0 st0 => ?_
  clear cx
  obtain ⟨lb, hlb⟩ : ∃ lb, q0.lb = lb := ⟨_, rfl⟩
  refine exI_mk (fun iI R' Φ' k => ∃ (i : Nat) (q : LP), iI = i ∧ i ≤ l.length ∧ q.lb = lb ∧ LedQ q (madeP (l.take i)) ∧ LedI i (madeP (l.take i)) ∧ R' = LedO q (madeP (l.take i)) ++ (R ++ G) ∧ Φ' = (fun M w => Φ M w ∧ LF q (madeP (l.take i)) M w) ∧ k = l.length - i) ⟨⟨_, _, _, st0, fun w G cx => cx, 0, q0, rfl, Nat.zero_le _, hlb, hq0, LedI.start, rfl, rfl, rfl⟩, ?_⟩
  clear st0 hq0
  rw [hlb]
  rintro iI R1 Φ1 k _ ⟨i, q, rfl, hi, hlb2, hq, hv, rfl, rfl, rfl⟩
  refine fun w G2 cx => ?_
  clear cx
  refine Br.intro (fun hlt0 => ?_) (fun hge => fun w G2 cx => ?_)
  · have hlt : i < l.length := by
      rw [Bool.and_eq_true] at hlt0
      have := of_decide_eq_true hlt0.1; omega
    clear hlt0
    obtain ⟨r, rc, he, k1, k2, k3, k4⟩ := hpc i hlt
    have hx := hok l[i] (List.getElem_mem _)
    have hstp := madeP_step hlt
    obtain ⟨st, hste⟩ : ∃ st, madeP (l.take i) = st := ⟨_, rfl⟩
    rw [hste] at hq hv hstp ⊢
    have hst : Stable (fun M w => Φ M w ∧ LF q st M w) := instStableAnd Φ (fun M w => LF q st M w)
    subst hlb2
    have tree : FitTree p l.length (i : Int) (some ⟨q.lb, 0, none⟩) W (LedO q st ++ (R ++ G)) (fun M w => Φ M w ∧ LF q st M w) (fun kx z R' Φ' => ∃ p' c', z = 0 ∧ R' = LedO q st ++ (.blk kx ((fitOf st l[i]).cells p' c') 60 :: (R ++ G)) ∧ Φ' = (fun M w => (Φ M w ∧ LF q st M w) ∧ Sl M w p' (fitOf st l[i]).l)) :=
      fit_tree hlt (hp (by omega)) (fun M w h => hP M w h.1) he k1 k2 (by have := hx.1; omega) hq hv.s hv.v.mark fun kb p' c' m1 m2 m3 m4 => ⟨p', c', rfl, rfl, rfl⟩
    refine exI_mk (fun kx z R' Φ' => ∃ p' c', z = 0 ∧ R' = LedO q st ++ (.blk kx ((fitOf st l[i]).cells p' c') 60 :: (R ++ G)) ∧ Φ' = (fun M w => (Φ M w ∧ LF q st M w) ∧ Sl M w p' (fitOf st l[i]).l)) ⟨tree, ?_⟩
    clear tree
    rintro kx z R2 Φ2 st2 ⟨p2, c2, rfl, rfl, rfl⟩
    have cb : ∀ {Ψ : PW} {w : World} {G3 : List Own} {j : Nat} {v : Value}, ((fitOf st l[i]).cells p2 c2)[j]? = some v → Ctx W w ((LedO q st ++ (.blk kx ((fitOf st l[i]).cells p2 c2) 60 :: (R ++ G))) ++ G3) Ψ → w.cell? ⟨kx, 0 + j, none⟩ = some v := fun hv cx => by
      rw [Nat.zero_add]; exact cx.get 4 rfl hv
    refine fun w G cx => ⟨_, cb (j := 0) rfl cx, fun w G cx => ⟨_, cb (j := 1) rfl cx, fun w G cx => ⟨_, _, _, cb (j := 2) rfl cx, fun w G cx => ?_⟩⟩⟩
    refine push_next (x := l[i]) (i := i) hq hv (by omega) hx k3 cx fun n q' hlb3 hq' hv' st3 => ?_
    clear cx
    rw [← hstp] at hq' hv' st3 ⊢
    exact ⟨by unfold I64; omega, LedO q' (madeP (l.take (i + 1))) ++ (R ++ _), _, l.length - (i + 1), @instStableAnd Φ (fun M w => LF q' (madeP (l.take (i + 1))) M w) _ (instStableElems q'.cs (madeP (l.take (i + 1))).lines), fun w G cx => drop_mid cx.has, ⟨i + 1, q', by omega, hlt, hlb3, hq', hv', rfl, rfl, rfl⟩, by omega⟩
  · have hge : i = l.length := by
      rw [Bool.and_eq_false_iff] at hge
      rcases hge with h | h
      · have := of_decide_eq_false h; omega
      · cases h
    subst hge
    rw [List.take_length] at cx hq hv
    subst hlb2
    exact ⟨_, rfl, LedO q (madeP l) ++ R, _, instStableAnd Φ (fun M w => LF q (madeP l) M w), (cx.left).re (by simp), hk q hq hv (instStableAnd Φ (fun M w => LF q (madeP l) M w))⟩
end
end Go.Proofs.YtbkpfhhhbhaecaaDoor
end

/-
  Copies of maps, walked.
-/
section
set_option linter.unusedVariables false
set_option linter.unusedSimpArgs false
namespace Go.Proofs.YtbkpfhhhbhaecaaDoor
open Go.Vc


set_option maxHeartbeats 1000000 in
set_option maxRecDepth 100000 in
theorem mapsClone_run (b : Nat) (es : Array MapEntry) (clock : Nat) (w : World) (hb : w.heap[b]? = some (.map es clock)) :
    Calls Tryd.prog 72 #[.map (some b)] w fun e w' => e = .returned (.map (some w.heap.size)) ∧ w' = w.alloc (.map es clock) := by
  have ht := Tryd.underlying114
  have hq := fun w => run_eql_map_nil_sl (P := Tryd.prog) w 114 _ _ (some b) ht
  go_enter Tryd.func72, Tryd.ntmps72
  go_wp2
  rw [run_callFunc_extern Tryd.func101 (by kernel_rfl) (by kernel_rfl) (by kernel_rfl) (e := Extern.MapsClone.clone) (by kernel_rfl), run_maps_clone_sl w 114 hb]
  simp only [Result.andThen]
  rw [Oper.upon_value]
  go_wp2
  rw [run_typeAssert_map_sl _ 114 20 _ _ _ ht]
  simp only [Result.andThen]
  rw [Oper.upon_value]
  go_wp2
  go_ret
  exact ⟨rfl, rfl⟩
end Go.Proofs.YtbkpfhhhbhaecaaDoor
end

/-
  Copies of ledgers, and lists of lines that are the same: walked.
-/
section
set_option linter.unusedVariables false
set_option linter.unusedSimpArgs false
namespace Go.Proofs.YtbkpfhhhbhaecaaDoor
open Go.Vc


theorem bat_len (l : List BatD) : (batCells l).length = l.length * 3 := by
  induction l with
  | nil => rfl
  | cons x l ih => rw [show batCells (x :: l) = x.cells ++ batCells l from rfl, List.length_append, ih]; simp; omega
theorem bat_one1 (l : List BatD) : (batCells l).all (fun u => oneC u) = true := by
  induction l with
  | nil => rfl
  | cons x l ih => rw [show batCells (x :: l) = x.cells ++ batCells l from rfl, List.all_append, ih]; rfl

section
variable {Φ : PW} {q : LP} {st : LedD} {W w : World} {R S G : List Own} {p r : Option Addr} {cap cap2 : Nat}

theorem CloneB_new [Stable Φ] {l : List BatD} {bp : Option Addr} {bc : Nat} (hbp : 0 < l.length → ∃ g, bp = some ⟨g, 0, none⟩) (hlen : l.length ≤ 1000000) (j : Nat) (hS : S[j]? = some (.buf bp l.length bc (batCells l) 120 3)) (c : Ctx W w S Φ) :
    Calls Tryd.prog F.slices_Clone_ledger_batch_ledger_batch #[.slice bp l.length cap] w fun e w' => ∃ p' c', e = .returned (.slice p' l.length c') ∧ Ctx W w' (.buf p' l.length c' (batCells l) 120 3 :: S) Φ := by
  refine (Bslices_Clone_ledger_batch_ledger_batch_run bp l.length cap (J := fun v w' => ∃ p' c', v = .slice p' l.length c' ∧ Ctx W w' (.buf p' l.length c' (batCells l) 120 3 :: S) Φ) c ?_).mono fun e w' ⟨v, he, p', c', hv, rest⟩ => ⟨p', c', by rw [he, hv], rest⟩
  clear c
  refine Br.intro (fun hn => fun w F c => ?_) (fun hn => fun k w F c => ?_)
  · have hl : l = [] := by
      rcases Nat.eq_zero_or_pos l.length with h0 | h0
      · exact List.eq_nil_of_length_eq_zero h0
      · obtain ⟨g, e⟩ := hbp h0
        rw [e] at hn; cases hn
    subst hl
    exact ⟨none, 0, rfl, c.left.buf0 120 3⟩
  · have c' : Ctx W w (.buf (some ⟨k, 0, none⟩) 0 0 [] 120 3 :: (S ++ F)) Φ := c.toBuf 0 0 3 rfl (by simp) (by simp [maxLen])
    obtain ⟨i, z, e1, e2, e3, e4, e5, e6⟩ := appB_out (P := Tryd.prog) (ts := 113) (t := 120) (size := 3) (bytes := 24) (by kernel_rfl)
    rcases Nat.eq_zero_or_pos l.length with h0 | h0
    · have hl : l = [] := List.eq_nil_of_length_eq_zero h0
      subst hl
      exact ⟨_, _, _, w, run_app (c'.append0 0 rfl e1 e2 bp cap), .buf (some ⟨k, 0, none⟩) 0 0 [] 120 3 :: S, Φ, inferInstance, c', fun w G c => ⟨some ⟨k, 0, none⟩, 0, rfl, c.left⟩⟩
    · obtain ⟨g, hp⟩ := hbp h0
      have hS2 : (.buf (some ⟨k, 0, none⟩) 0 0 [] 120 3 :: (S ++ F))[j + 1]? = some (.buf bp l.length bc (batCells l) 120 3) := by
        rw [List.getElem?_cons_succ, List.getElem?_append_left (List.getElem?_eq_some_iff.1 hS).1]; exact hS
      obtain ⟨p', cap', w', hrun, cx⟩ := c'.append 0 rfl (ty := 113) e1 e2 e3 e4 e5 (a := ⟨g, 0, none⟩) (m := l.length) (c2 := cap) (news := batCells l) h0 (bat_len l) (fun i u hi => by rw [addr_add, Nat.zero_add]; exact c'.bufGet (j + 1) hS2 hp hi) (fun u hu => List.all_eq_true.1 (bat_one1 l) u hu) (by rw [e6]; omega) (by omega)
      rw [← hp, Nat.zero_add] at hrun
      rw [Nat.zero_add] at cx
      exact ⟨_, _, _, w', run_app hrun, .buf p' l.length cap' (batCells l) 120 3 :: S, Φ, inferInstance, cx, fun w G c => ⟨p', cap', rfl, c.left⟩⟩

theorem Ctx.rev4 [Stable Φ] {a b c d : Own} (x : Ctx W w (a :: b :: c :: d :: S) Φ) : Ctx W w (a :: d :: c :: b :: S) Φ := x.perm (List.Perm.cons a (List.Perm.append_right S (List.reverse_perm [d, c, b])))
/-- two ledgers change places -/
theorem swapQ [Stable Φ] {A B : List Own} (c : Ctx W w ((A ++ (B ++ R)) ++ G) Φ) : Ctx W w ((B ++ (A ++ R)) ++ G) Φ := c.perm (List.Perm.append_right G (by
  rw [← List.append_assoc, ← List.append_assoc]
  exact List.Perm.append_right R List.perm_append_comm))

set_option maxHeartbeats 1000000 in
theorem Copy_to [Stable Φ] (hq : LedQ q st) (hs : LedS st) [hF : Has Φ (LF q st)] (c : Ctx W w ((LedO q st ++ R) ++ G) Φ) {K : Option Addr → List Own → PW → Prop}
    (hk : ∀ q2, LedQ q2 st → Stable (fun M w => Φ M w ∧ LF q2 st M w) → K (some ⟨q2.lb, 0, none⟩) (LedO q st ++ (LedO q2 st ++ R)) (fun M w => Φ M w ∧ LF q2 st M w)) :
    Calls Tryd.prog F.ledger_Ledger_Copy #[led q] w fun e w' => ∃ p, e = .returned (.pointer p) ∧ ∃ R' Φ', Stable Φ' ∧ Ctx W w' (R' ++ G) Φ' ∧ K p R' Φ' := by
  have hsl := hs.lines
  have hsb := hs.bats
  refine (Bledger_Ledger_Copy_run q.lb 0 (R := (LedO q st ++ R) ++ G) (J := fun v w' => ∃ p, v = .pointer p ∧ ∃ R' Φ', Stable Φ' ∧ Ctx W w' (R' ++ G) Φ' ∧ K p R' Φ') c ?_).mono fun e w' ⟨v, he, p, hv, rest⟩ => ⟨p, by rw [he, hv], rest⟩
  clear c
  refine ⟨(LedO q st ++ R) ++ G, Φ, inferInstance, fun w G2 c => c, q.lp, st.lines.length, q.lc, fun w G2 c => ⟨_, _, _, c.get 0 (i := 0) rfl rfl, rfl⟩, q.bp, st.bats.length, q.bc, fun w G2 c => ⟨_, _, _, c.get 0 (i := 1) rfl rfl, rfl⟩, some q.mb, fun w G2 c => ⟨_, c.get 0 (i := 2) rfl rfl, rfl⟩, caus st.lines 0, caus st.lines 1, caus st.lines 2, fun w G2 c => ⟨_, _, _, c.row 0 (o := 0 + 3) rfl (fun j hj => ?_), rfl⟩, fun w G2 cx => ?_⟩
  · match j, hj with
    | 0, _ => rfl
    | 1, _ => rfl
    | 2, _ => rfl
  refine (Cloned_new (cap := q.lc) (S := ((LedO q st ++ R) ++ G) ++ G2) (src_all (Φ := Φ) hq hF.go).app.app.app (by omega) hs.rows cx).mono fun e w' ⟨p1, c1, cs1, he, cx⟩ => ?_
  refine ⟨p1, _, c1, he, bufL p1 st.lines.length c1 cs1 :: ((LedO q st ++ R) ++ G), (fun M w => Φ M w ∧ Elems M w cs1 st.lines), inferInstance, cx, fun w G3 c => (Ctx.drop1 c).fst, fun w G3 cx => ?_⟩
  refine (CloneB_new (cap := q.bc) (l := st.bats) (S := (bufL p1 st.lines.length c1 cs1 :: ((LedO q st ++ R) ++ G)) ++ G3) hq.bpt (by omega) 3 rfl cx).mono fun e w' ⟨p2, c2, he, cx⟩ => ?_
  refine ⟨p2, _, c2, he, .buf p2 st.bats.length c2 (batCells st.bats) 120 3 :: bufL p1 st.lines.length c1 cs1 :: ((LedO q st ++ R) ++ G), (fun M w => Φ M w ∧ Elems M w cs1 st.lines), inferInstance, cx, fun w G3 c => (Ctx.drop1 (Ctx.drop1 c)).fst, fun w G3 cx => ?_⟩
  have hmap : w.heap[q.mb]? = some (mObj q.es q.clk) := cx.own (.obj q.mb (mObj q.es q.clk)) (by simp)
  refine (mapsClone_run q.mb _ q.clk w hmap).mono fun e w' ⟨he, hw⟩ => ?_
  have cy := cx.newObj hw
  refine ⟨some w.heap.size, he, .obj w.heap.size (mObj q.es q.clk) :: .buf p2 st.bats.length c2 (batCells st.bats) 120 3 :: bufL p1 st.lines.length c1 cs1 :: ((LedO q st ++ R) ++ G), (fun M w => Φ M w ∧ Elems M w cs1 st.lines), inferInstance, cy, fun w G3 c => (Ctx.drop1 (Ctx.drop1 (Ctx.drop1 c))).fst, fun kb w2 G4 cx2 => ?_⟩
  obtain ⟨q2, hq2⟩ : ∃ q2 : LP, q2 = ⟨kb, p1, c1, cs1, p2, c2, w.heap.size, q.es, q.clk⟩ := ⟨_, rfl⟩
  have cz : Ctx W w2 ((LedO q2 st ++ (LedO q st ++ R)) ++ (G ++ G4)) (fun M w => Φ M w ∧ LF q2 st M w) := by
    rw [hq2]
    have h3 := Ctx.rev4 (S := ((LedO q st ++ R) ++ G) ++ G4) cx2
    exact h3.re (by simp)
  have hel := cz.phi.2
  have hlq : LedQ q2 st := {
    map := by rw [hq2]; exact hq.map
    cnt := fun k => by rw [hq2]; exact hq.cnt k
    lpt := fun h => by
      obtain ⟨g, hg, _⟩ := cz.bufCell 1 rfl (by rw [elems_len7 hel]; omega)
      exact ⟨g, hg⟩
    bpt := fun h => by
      obtain ⟨g, hg, _⟩ := cz.bufCell 2 rfl (by rw [bat_len]; omega)
      exact ⟨g, hg⟩
    lcap := (cz.bufLen 1 rfl).2
    cells := fun i hi => rows7 hel i hi
    len := elems_len7 hel }
  have hp : (some ⟨kb, 0, none⟩ : Option Addr) = some ⟨q2.lb, 0, none⟩ := by rw [hq2]
  exact ⟨_, rfl, LedO q st ++ (LedO q2 st ++ R), _, instStableAnd Φ (fun M w => LF q2 st M w), (Ctx.left ((swapQ cz).re (List.append_assoc _ G G4).symm)), hp ▸ hk q2 hlq (instStableAnd Φ (fun M w => LF q2 st M w))⟩

/-- lists of lines, compared -/
theorem SameLines_in [Stable Φ] {a b : List LineD} {csa csb : List Value} (srcA : Src [] Φ p a csa) (srcB : Src [] Φ r b csb) (hca : Rows7 csa a) (hcb : Rows7 csb b) (hlen : a.length ≤ 1000000) (hrow : ∀ x ∈ a, x.row.length ≤ 1000000) :
    GivesIn Φ Tryd.prog F.errataref41_SameLines #[.slice p a.length cap, .slice r b.length cap2] (.bool (sameLs a b)) := by
  refine gives_in (Berrataref41_SameLines_run p a.length cap r b.length cap2) fun W R => Br.intro (fun hn => fun w G cx => ⟨?_, cx.left⟩) (fun hn => ?_)
  · have hn := of_decide_eq_true hn
    unfold sameLs
    rw [decide_eq_false fun e => hn (by rw [e])]; rfl
  have hn : b.length = a.length := by have := Decidable.not_not.1 (of_decide_eq_false hn); omega
  have he : sameLs a b = (a.zip b).all fun x => sameL x.1 x.2 := by unfold sameLs; rw [decide_eq_true hn.symm, Bool.true_and]
  rw [he]
  have hz : (a.zip b).length = a.length := by rw [List.length_zip, hn, Nat.min_self]
  refine exI_mk (fun n R' Φ' k => ∃ i : Nat, n = i ∧ i ≤ a.length ∧ R' = R ∧ Φ' = Φ ∧ k = a.length - i ∧ ((a.zip b).take i).all (fun x => sameL x.1 x.2) = true) ⟨⟨R, Φ, _, inferInstance, fun w F c => c, 0, rfl, Nat.zero_le _, rfl, rfl, rfl, rfl⟩, ?_⟩
  rintro n R1 Φ1 k _ ⟨i, rfl, hi, rfl, rfl, rfl, hs⟩
  refine Br.intro (fun hlt => ?_) (fun hge => fun w G cx => ⟨?_, cx.left⟩)
  · have hlt : i < a.length := by have := of_decide_eq_true hlt; omega
    have hlb : i < b.length := by omega
    obtain ⟨g1, o1, e1⟩ := srcA.ptr (by omega)
    obtain ⟨g2, o2, e2⟩ := srcB.ptr (by omega)
    obtain ⟨x1, y1, h1, _⟩ := hca i hlt
    obtain ⟨x2, y2, h2, _⟩ := hcb i hlb
    have hA : Has Φ1 (fun M w => Sl M w x1 a[i].row) := ⟨fun M w h => src_sl srcA hlt h1 h⟩
    have hB : Has Φ1 (fun M w => Sl M w x2 b[i].row) := ⟨fun M w h => src_sl srcB hlb h2 h⟩
    have hat : (a.zip b)[i]'(by omega) = (a[i], b[i]) := List.getElem_zip ..
    refine ⟨R1, Φ1, inferInstance, fun w G cx => cx, by omega, ptrK_intro g1 o1 e1 ⟨by omega, ptrK_intro g2 o2 e2 ⟨a[i].no, a[i].batch, a[i].time, x1, a[i].row.length, y1, a[i].n, a[i].cause, a[i].why, fun w G cx => ⟨_, _, _, _, _, _, _, _, _, by rw [Int.toNat_natCast]; exact src_at (S := []) (G := R1 ++ G) srcA e1 cx h1, rfl⟩, b[i].no, b[i].batch, b[i].time, x2, b[i].row.length, y2, b[i].n, b[i].cause, b[i].why, fun w G cx => ⟨_, _, _, _, _, _, _, _, _, by rw [Int.toNat_natCast]; exact src_at (S := []) (G := R1 ++ G) srcB e2 cx h2, rfl⟩, fun w G cx => ?_⟩⟩⟩
    refine (SameLine_in (hA := hA) (hB := hB) (cap := y1) (cap2 := y2) a[i] b[i] (hrow _ (List.getElem_mem _))).toB cx ?_
    clear cx
    refine Br.intro (fun h => fun w G cx => ⟨?_, cx.left⟩) (fun h => ⟨by unfold I64; omega, R1, Φ1, a.length - (i + 1), inferInstance, fun w G cx => cx, ⟨i + 1, rfl, hlt, rfl, rfl, rfl, ?_⟩, by omega⟩)
    · have h : sameL a[i] b[i] = false := by simpa using h
      rw [List.all_eq_false.2 ⟨(a.zip b)[i]'(by omega), List.getElem_mem _, by rw [hat, h]; simp⟩]
    · have h : sameL a[i] b[i] = true := by simpa using h
      rw [List.take_succ_eq_append_getElem (by omega), List.all_append, hs, hat]
      simp [h]
  · have hge : i = a.length := by have := of_decide_eq_false hge; omega
    subst hge
    rw [← hz, List.take_length] at hs
    rw [hs]
end
end Go.Proofs.YtbkpfhhhbhaecaaDoor
end

/-
  The law LedgerPast, walked.
-/
section
set_option linter.unusedVariables false
set_option linter.unusedSimpArgs false
namespace Go.Proofs.YtbkpfhhhbhaecaaDoor
open Go.Vc


/-! ### plain -/
/-- a ledger that goes on from another one -/
structure More (a b : LedD) : Prop where
  lines : ∃ ls, b.lines = a.lines ++ ls
  bats : ∃ bs, b.bats = a.bats ++ bs ∧ ∀ x ∈ bs, (lastP a).no < x.no
  last : (lastP a).no ≤ (lastP b).no
theorem More.refl (a : LedD) : More a a := ⟨⟨[], by simp⟩, ⟨[], by simp, by simp⟩, Int.le_refl _⟩
theorem More.step {a b : LedD} (h : More a b) (x : PushD) : More a (stepP b x) := by
  unfold stepP
  split
  · rename_i hz
    have ac := check_ok hz
    obtain ⟨ls, h1⟩ := h.lines
    obtain ⟨bs, h2, h3⟩ := h.bats
    have hl := h.last
    have hn := ac.gno
    refine ⟨⟨ls ++ (fitOf b x).l, ?_⟩, ⟨bs ++ [⟨(fitOf b x).batch, (fitOf b x).mark, (b.lines ++ (fitOf b x).l).length⟩], ?_, fun y hy => ?_⟩, ?_⟩
    · show b.lines ++ _ = _
      rw [h1, List.append_assoc]
    · show b.bats ++ _ = _
      rw [← List.append_assoc, ← h2]
    · rcases List.mem_append.1 hy with hy | hy
      · exact h3 y hy
      · rw [List.mem_singleton.1 hy]
        show _ < (fitOf b x).batch
        omega
    · rw [last_app]
      show _ ≤ (fitOf b x).batch
      omega
  · exact h
theorem endP_app (no : Int) : ∀ (a b : List BatD) (e : Nat), endP (a ++ b) no e = endP b no (endP a no e)
  | [], _, _ => rfl
  | x :: a, b, e => endP_app no a b _
theorem endP_none {no : Int} : ∀ {l : List BatD} {e : Nat}, (∀ b ∈ l, no < b.no) → endP l no e = e
  | [], _, _ => rfl
  | x :: l, e, h => by
    unfold endP
    rw [if_neg (by have := h x (by simp); omega)]
    exact endP_none fun b hb => h b (by simp [hb])
theorem endP_all {no : Int} : ∀ {l : List BatD} {e : Nat}, (∀ b ∈ l, b.no ≤ no) → endP l no e = (l.getLast?.map BatD.stop).getD e
  | [], _, _ => rfl
  | [x], e, h => by
    unfold endP endP
    rw [if_pos (h x (by simp))]; rfl
  | x :: y :: l, e, h => by
    have ih := endP_all (l := y :: l) (e := if x.no ≤ no then x.stop else e) fun b hb => h b (by simp [hb])
    show endP (y :: l) no _ = _
    rw [ih, List.getLast?_cons_cons]
    rw [List.getLast?_eq_getElem?, List.getElem?_eq_getElem (by simp)]; rfl
theorem at_last {a b : LedD} (hw : Inv2 a) (h : More a b) : b.lines.take (endP b.bats (lastP a).no 0) = a.lines := by
  obtain ⟨ls, h1⟩ := h.lines
  obtain ⟨bs, h2, h3⟩ := h.bats
  have e : endP b.bats (lastP a).no 0 = a.lines.length := by
    rw [h2, endP_app, endP_none h3, endP_all (no := (lastP a).no) (fun x hx => last_max hw.asc ⟨0, -1, 0⟩ x hx), ← hw.full]
    unfold begP
    by_cases h0 : a.bats.length = 0
    · have : a.bats = [] := List.eq_nil_of_length_eq_zero h0
      rw [this]; rfl
    · rw [if_neg h0, List.getLast?_eq_getElem?]
  rw [e, h1, List.take_left]

section
variable {Φ : PW} {q : LP} {st : LedD} {W w : World} {R S G : List Own} {p r : Option Addr} {cap cap2 : Nat}

theorem Sl.pre {α : Type} [Gv α] {M : List Nat} {l : List α} (h : Sl M w p l) (n : Nat) : Sl M w p (l.take n) := fun j hj => by
  have hj' : j < l.length := by rw [List.length_take] at hj; omega
  obtain ⟨b, o, cs, h1, h2, h3, h4⟩ := h j hj'
  exact ⟨b, o, cs, h1, h2, h3, by rw [List.getElem_take]; exact h4⟩

set_option maxHeartbeats 8000000 in
theorem Past_pin [Stable Φ] [hT : Has Φ TabI] {l m : List PushD} {g o : Nat} {cs : List (List Value)} (hp : 0 < l.length → p = some ⟨g, o, none⟩) (hP : ∀ M w, Φ M w → Pin g o cs l M w) (hlen : l.length ≤ maxLen)
    {g2 o2 : Nat} {cs2 : List (List Value)} (hp2 : 0 < m.length → r = some ⟨g2, o2, none⟩) (hP2 : ∀ M w, Φ M w → Pin g2 o2 cs2 m M w) (hlen2 : m.length ≤ maxLen) :
    GivesIn Φ Tryd.prog F.erratalaw41_LedgerPast #[.slice p l.length cap, .slice r m.length cap2] (.bool true) := by
  refine ⟨fun W0 w0 S0 c0 => GivesIn.go (gives_in (Berratalaw41_LedgerPast_run p l.length cap r m.length cap2) fun W R => ?_) W0 w0 S0 c0⟩
  have hpc : ∀ j (hj : j < m.length), ∃ p c, cs2.getD j [] = m[j].cells p c ∧ m[j].l.length ≤ c ∧ c ≤ maxLen ∧ I64 m[j].batch ∧ I64 m[j].mark := fun j hj => pin_push (hP2 _ _ c0.phi) hj
  clear c0
  refine fun w G cx => small41_in.toB cx fun w G cx => (Few41_in hp hP hlen).toB cx ?_
  clear cx
  refine Br.intro (fun _ => fun w G cx => ⟨rfl, cx.left⟩) (fun hfew => ?_)
  obtain ⟨hl15, hpu⟩ := few_out (l := l) (n := 15) (by simpa using hfew)
  refine fun w G cx => (Few41_in hp2 hP2 hlen2).toB cx ?_
  clear cx
  refine Br.intro (fun _ => fun w G cx => ⟨rfl, cx.left⟩) (fun hfew2 => ?_)
  obtain ⟨hm10, hpu2⟩ := few_out (l := m) (n := 10) (by simpa using hfew2)
  refine fun w G cx => made_to (p := p) (cap := cap) hp hP (by omega) (fun x hx => hpu x hx) cx fun q hq hi st0 => Br.intro (fun h => by cases h) (fun _ => ?_)
  clear cx
  obtain ⟨st, hst⟩ : ∃ st, madeP l = st := ⟨_, rfl⟩
  rw [hst] at hq hi st0 ⊢
  have hs := hi.s
  have hsl := hs.lines
  refine fun w G cx => Copy_to hq hs cx fun qc hqc stc => Br.intro (fun h => by cases h) (fun _ => ?_)
  clear cx
  refine fun w G cx => (Last_q hq hs).toI (R := LedO qc st ++ R) cx ?_
  clear cx
  refine fun w G cx => (Net_q hq hs).tot (R := LedO qc st ++ R) cx fun pn cn _ _ _ stN => ?_
  clear cx
  refine fun w G cx => (Lines_q hq hs).src (R := LedO qc st ++ R) cx fun pa ca csA ea1 ea2 hta hca stA => ?_
  clear cx
  have hnl := net_len st.lines
  -- the later ones
  refine exI_mk (fun iI R' Φ' k => ∃ (i : Nat) (q2 : LP) (s2 : LedD), iI = i ∧ i ≤ m.length ∧ q2.lb = q.lb ∧ LedQ q2 s2 ∧ LedI (l.length + i) s2 ∧ More st s2 ∧ R' = LedO q2 s2 ++ (LedO qc st ++ R) ∧ Φ' = (fun M w => ((((Φ M w ∧ LF q st M w) ∧ LF qc st M w) ∧ Sl M w pn (netP st.lines)) ∧ SrcF pa st.lines csA M w) ∧ LF q2 s2 M w) ∧ k = m.length - i) ⟨⟨LedO q st ++ (LedO qc st ++ R), _, _, @instStableAnd _ (fun M w => LF q st M w) stA _, fun w G cx => cx.weak fun M w h => ⟨h, h.1.1.1.2⟩, 0, q, st, rfl, Nat.zero_le _, rfl, hq, hi, More.refl st, rfl, rfl, rfl⟩, ?_⟩
  rintro iI R1 Φ1 k _ ⟨i, q2, s2, rfl, hi2, hlb, hq2, hI2, hmo, rfl, rfl, rfl⟩
  have st2 : Stable (fun M w => ((((Φ M w ∧ LF q st M w) ∧ LF qc st M w) ∧ Sl M w pn (netP st.lines)) ∧ SrcF pa st.lines csA M w) ∧ LF q2 s2 M w) := @instStableAnd _ (fun M w => LF q2 s2 M w) stA _
  rw [← hlb]
  refine Br.intro (fun hlt => ?_) (fun hge => fun w G cx => ?_)
  · have hlt : i < m.length := by have := of_decide_eq_true hlt; omega
    obtain ⟨x0, xc, he, k1, k2, k3, k4⟩ := hpc i hlt
    have hx : okPush m[i] := hpu2 m[i] (List.getElem_mem _)
    have tree : FitTree r m.length (i : Int) (some ⟨q2.lb, 0, none⟩) W (LedO q2 s2 ++ (LedO qc st ++ R)) (fun M w => ((((Φ M w ∧ LF q st M w) ∧ LF qc st M w) ∧ Sl M w pn (netP st.lines)) ∧ SrcF pa st.lines csA M w) ∧ LF q2 s2 M w) (fun kx z R' Φ' => ∃ p' c', z = 0 ∧ R' = LedO q2 s2 ++ (.blk kx ((fitOf s2 m[i]).cells p' c') 60 :: (LedO qc st ++ R)) ∧ Φ' = (fun M w => (((((Φ M w ∧ LF q st M w) ∧ LF qc st M w) ∧ Sl M w pn (netP st.lines)) ∧ SrcF pa st.lines csA M w) ∧ LF q2 s2 M w) ∧ Sl M w p' (fitOf s2 m[i]).l)) :=
      fit_tree hlt (hp2 (by omega)) (fun M w h => hP2 M w h.1.1.1.1.1) he k1 k2 (by have := hx.1; omega) hq2 hI2.s hI2.v.mark fun kb p' c' m1 m2 m3 m4 => ⟨p', c', rfl, rfl, rfl⟩
    refine exI_mk (fun kx z R' Φ' => ∃ p' c', z = 0 ∧ R' = LedO q2 s2 ++ (.blk kx ((fitOf s2 m[i]).cells p' c') 60 :: (LedO qc st ++ R)) ∧ Φ' = (fun M w => (((((Φ M w ∧ LF q st M w) ∧ LF qc st M w) ∧ Sl M w pn (netP st.lines)) ∧ SrcF pa st.lines csA M w) ∧ LF q2 s2 M w) ∧ Sl M w p' (fitOf s2 m[i]).l)) ⟨tree, ?_⟩
    clear tree
    rintro kx z R2 Φ2 st3 ⟨p2, c2, rfl, rfl, rfl⟩
    have cb : ∀ {Ψ : PW} {w : World} {G3 : List Own} {j : Nat} {v : Value}, ((fitOf s2 m[i]).cells p2 c2)[j]? = some v → Ctx W w ((LedO q2 s2 ++ (.blk kx ((fitOf s2 m[i]).cells p2 c2) 60 :: (LedO qc st ++ R))) ++ G3) Ψ → w.cell? ⟨kx, 0 + j, none⟩ = some v := fun hv cx => by
      rw [Nat.zero_add]; exact cx.get 4 rfl hv
    refine fun w G cx => ⟨_, cb (j := 0) rfl cx, fun w G cx => ⟨_, cb (j := 1) rfl cx, fun w G cx => ⟨_, _, _, cb (j := 2) rfl cx, fun w G cx => ?_⟩⟩⟩
    refine push_next (x := m[i]) (i := l.length + i) hq2 hI2 (by omega) hx k3 cx fun n q' hlb3 hq' hv' st4 => ?_
    clear cx
    obtain ⟨s3, hs3⟩ : ∃ s3, stepP s2 m[i] = s3 := ⟨_, rfl⟩
    have hmo3 : More st s3 := by rw [← hs3]; exact hmo.step m[i]
    rw [hs3] at hq' hv' st4 ⊢
    exact ⟨by unfold I64; omega, LedO q' s3 ++ (LedO qc st ++ R), _, m.length - (i + 1), @instStableAnd _ (fun M w => LF q' s3 M w) stA _, fun w G cx => drop_mid (cx.weak fun M w h => ⟨h.1.1.1, h.2⟩), ⟨i + 1, q', s3, by omega, hlt, hlb3, hq', hv', hmo3, rfl, rfl, rfl⟩, by omega⟩
  have hs2 := hI2.s
  have hsl2 := hs2.lines
  have hnl2 := net_len s2.lines
  obtain ⟨ls, hls⟩ := hmo.lines
  have hpre : s2.lines.take st.lines.length = st.lines := by rw [hls, List.take_left]
  have hlen3 : st.lines.length ≤ s2.lines.length := by rw [hls, List.length_append]; omega
  have hat1 : netP (s2.lines.take (endP s2.bats (lastP st).no 0)) = netP st.lines := by rw [at_last hi.w hmo]
  have hat2 : netP (s2.lines.take (endP s2.bats (lastP s2).no 0)) = netP s2.lines := by rw [at_last hI2.w (More.refl s2)]
  refine (Lines_q hq2 hs2).src (R := LedO qc st ++ R) cx fun pb cb csB eb1 eb2 htb hcb stB => ?_
  clear cx
  refine Br.intro (fun h => by have := of_decide_eq_true h; omega) (fun _ => Br.intro (fun _ => ?_) (fun h => by cases h))
  refine fun w G cx => (At_q (no := (lastP st).no) hq2 hs2).tot (R := LedO qc st ++ R) cx fun p3 c3 _ _ _ st5 => ?_
  clear cx
  rw [hat1] at st5 ⊢
  refine fun w G cx => (EqualH (a := netP st.lines) (b := netP st.lines) (p := p3) (cap := c3) (r := pn) (cap2 := cn) (by omega)).toB cx ?_
  clear cx
  rw [decide_eq_true rfl]
  refine Br.intro (fun _ => ?_) (fun h => by cases h)
  refine fun w G cx => (Last_q hq2 hs2).toI (R := LedO qc st ++ R) cx ?_
  clear cx
  refine fun w G cx => (At_q (no := (lastP s2).no) hq2 hs2).tot (R := LedO qc st ++ R) cx fun p4 c4 _ _ _ st6 => ?_
  clear cx
  rw [hat2] at st6 ⊢
  refine fun w G cx => (Net_q hq2 hs2).tot (R := LedO qc st ++ R) cx fun p5 c5 _ _ _ st7 => ?_
  clear cx
  refine fun w G cx => (EqualH (a := netP s2.lines) (b := netP s2.lines) (p := p4) (cap := c4) (r := p5) (cap2 := c5) (by omega)).toB cx ?_
  clear cx
  rw [decide_eq_true rfl]
  refine Br.intro (fun _ => ⟨by omega, ?_⟩) (fun h => by cases h)
  rw [Int.toNat_natCast, subPtr_zero]
  -- the first lines stay
  have srcA : ∀ {Ψ : PW} (h : Has Ψ (fun M w => SrcF pa st.lines csA M w)), Src [] Ψ pa st.lines csA := fun h => src_fact hta h.go
  have srcB : ∀ {Ψ : PW} (h : Has Ψ (fun M w => SrcF pb s2.lines csB M w)), Src [] Ψ pb st.lines (csB.take (st.lines.length * 7)) := fun {Ψ} h => by
    have hb := src_fact (Φ := Ψ) htb h.go
    refine ⟨fun h0 => hb.ptr (by omega), fun {W w G b o} e c j v hj => hb.rd e c j v ?_, fun M w x => ?_⟩
    · have hjl : j < (csB.take (st.lines.length * 7)).length := (List.getElem?_eq_some_iff.1 hj).1
      rw [List.length_take] at hjl
      rwa [List.getElem?_take_of_lt (by omega)] at hj
    · have := elems_sub7 (hb.el M w x) 0 st.lines.length (by omega)
      rw [Nat.zero_mul, List.drop_zero, List.drop_zero, hpre] at this
      exact this
  have hcb2 : Rows7 (csB.take (st.lines.length * 7)) st.lines := fun i h => by
    obtain ⟨a, ac, e1, e2, e3, e4⟩ := hcb i (by omega)
    have hx : s2.lines[i]'(by omega) = st.lines[i] := by
      have : s2.lines[i]? = st.lines[i]? := by rw [hls, List.getElem?_append_left h]
      rw [List.getElem?_eq_getElem (by omega), List.getElem?_eq_getElem h] at this
      exact Option.some.inj this
    rw [hx] at e1 e2 e4
    refine ⟨a, ac, ?_, e2, e3, e4⟩
    rw [← e1, List.drop_take, List.take_take]
    congr 1
    omega
  have hsame := fun (Ψ : PW) (s : Stable Ψ) (x1 : Has Ψ (fun M w => SrcF pa st.lines csA M w)) (x2 : Has Ψ (fun M w => SrcF pb s2.lines csB M w)) => SameLines_in (Φ := Ψ) (cap := cb) (cap2 := ca) (srcB x2) (srcA x1) hcb2 hca (by omega) hs.rows
  rw [sameLs_refl] at hsame
  refine fun w G cx => (hsame _ inferInstance inferInstance inferInstance).toB cx ?_
  clear cx hsame
  refine Br.intro (fun _ => ?_) (fun h => by cases h)
  -- the copy
  refine fun w G cx => (Net_q hqc hs).tot (R := LedO q2 s2 ++ R) (swapQ cx) fun p6 c6 _ _ _ st8 => ?_
  clear cx
  refine fun w G cx => (EqualH (a := netP st.lines) (b := netP st.lines) (p := p6) (cap := c6) (r := pn) (cap2 := cn) (by omega)).toB cx ?_
  clear cx
  rw [decide_eq_true rfl]
  refine Br.intro (fun _ => ?_) (fun h => by cases h)
  refine fun w G cx => (Lines_q hqc hs).src (R := LedO q2 s2 ++ R) cx fun p7 c7 csC ec1 ec2 htc hcc stC => ?_
  clear cx
  have srcC : ∀ {Ψ : PW} (h : Has Ψ (fun M w => SrcF p7 st.lines csC M w)), Src [] Ψ p7 st.lines csC := fun h => src_fact htc h.go
  have hsame := fun (Ψ : PW) (s : Stable Ψ) (x1 : Has Ψ (fun M w => SrcF p7 st.lines csC M w)) (x2 : Has Ψ (fun M w => SrcF pa st.lines csA M w)) => SameLines_in (Φ := Ψ) (cap := c7) (cap2 := ca) (srcC x1) (srcA x2) hcc hca (by omega) hs.rows
  rw [sameLs_refl] at hsame
  refine fun w G cx => (hsame _ inferInstance inferInstance inferInstance).toB cx ?_
  clear cx hsame
  refine Br.intro (fun _ => ?_) (fun h => by cases h)
  refine fun w G cx => (Last_q hqc hs).toI (R := LedO q2 s2 ++ R) cx ?_
  clear cx
  refine fun w G cx => ⟨?_, Ctx.has (Ctx.left (Ctx.dropF (Q := LedO q2 s2) (T := R) (G := G) (Ctx.dropF (Q := LedO qc st) (T := LedO q2 s2 ++ R) (G := G) cx)))⟩
  rw [decide_eq_true rfl]

theorem Past_in [Stable Φ] [hT : Has Φ TabI] {l m : List PushD} [hL : Has Φ (fun M w => Sl M w p l)] (hlen : l.length ≤ maxLen) [hM : Has Φ (fun M w => Sl M w r m)] (hlen2 : m.length ≤ maxLen) :
    GivesIn Φ Tryd.prog F.erratalaw41_LedgerPast #[.slice p l.length cap, .slice r m.length cap2] (.bool true) :=
  .pinned hL.go fun g o cs hp => .pinned (fun M w h => hM.go M w h.1) fun g2 o2 cs2 hp2 => Past_pin (Φ := fun M w => (Φ M w ∧ Pin g o cs l M w) ∧ Pin g2 o2 cs2 m M w) hp (fun M w h => h.1.2) hlen hp2 (fun M w h => h.2) hlen2
end
end Go.Proofs.YtbkpfhhhbhaecaaDoor
end

/-
  From what a row lists as laid to the table of the powers of ten.
-/
section
set_option linter.unusedVariables false
set_option linter.unusedSimpArgs false
namespace Go.Proofs.YtbkpfhhhbhaecaaDoor
open Go.Vc Go.RowKit

theorem tab_drop {P : Program} {w : World} : ∀ (n : Nat) {l : List (String × DataW Unit)}, laidMet P l w → laidMet P (l.drop n) w
  | 0, l, h => by rw [List.drop_zero]; exact h
  | n + 1, [], h => h
  | n + 1, x :: l, h => by rw [List.drop_succ_cons]; exact tab_drop n h.tail
/-- the table, out of a list that has it at the n-th place -/
theorem la_tab {W : World} {l : List (String × DataW Unit)} (n : Nat) (h : laidMetH Tryd.prog l W) (hp : (l.all fun x => x.2.handleName?.isNone) = true) (hd : ∃ r, l.drop n = ("internal/strconv.uint64pow10", Lib.tabData .u64 Lib.pow10Tab) :: r) : TabI [] W := by
  rw [MakeChecks.laidMetH_plain Tryd.prog l W hp] at h
  obtain ⟨r, hr⟩ := hd
  have h2 := tab_drop n h
  rw [hr] at h2
  exact Tab.start (Lib.tabIs_of_head (k := .u64) (zs := Lib.pow10Tab) (g := 1) (t := 189) (e := 182) (n := 20) (by kernel_rfl) (by kernel_rfl) (by kernel_rfl) (by kernel_rfl) (by kernel_rfl) (by kernel_rfl) h2)

end Go.Proofs.YtbkpfhhhbhaecaaDoor
end

section
set_option linter.unusedVariables false
set_option linter.unusedSimpArgs false
namespace Go.Proofs.YtbkpfhhhbhaecaaDoor
open Go.ChangeShapes Go.WideShapes Go.ChangeAt Go.RowKit Go.Vc


theorem df_own : ownKnob Tryd.prog.godebug = none := by kernel_rfl
theorem df_laid : laidOutB Tryd.prog = true := by kernel_rfl

theorem trodAll_n {H : Type} {enc : TypeId × Value → H} {P : Program} {w : World} {base : Nat} {spare : Nat → Bool} {held : Bool} {t0 t1 : TypeId} {args : Array Value} {ds : List (DataW H)} {ps : List MemPlace} (h : DataW.TrodAll enc P w base spare held [t0, t1] args.toList ds ps) :
    ∃ v0 v1 d0 d1 p0 p1, args = #[v0, v1] ∧ ds = [d0, d1] ∧ ps = p0 ++ p1 ∧ DataW.Trod enc P w base spare held t0 v0 d0 p0 ∧ DataW.Trod enc P w base spare held t1 v1 d1 p1 := by
  obtain ⟨v0, vs0, d0, ds0, p0, q0, hargs, rfl, rfl, h0, h⟩ := trodAll_cons h
  obtain ⟨v1, vs1, d1, ds1, p1, q1, rfl, rfl, rfl, h1, h⟩ := trodAll_cons h
  obtain ⟨rfl, rfl, rfl⟩ := trodAll_nil h
  exact ⟨v0, v1, d0, d1, p0, p1, by cases args; simp_all, rfl, by simp, h0, h1⟩

theorem door_met (os : Os) (args : Array Value) : laidMetH Tryd.prog Rows.ledgerPastRow.laid ((World.doorLaid Tryd.prog 400 os).forCall (fun _ _ => 0) ⟨#[], args, []⟩).memory :=
  laidMetH_of_parts3 (fuel := 8) (laidMet_of_run' 8 (by kernel_rfl) (by kernel_rfl)) (by kernel_rfl) (by kernel_rfl)

set_option maxRecDepth 100000 in
theorem law_lifted (os : Os) (started : os.Started) (H : Type) (enc : TypeId × Value → H) :
    ReturnsInHanded {} Tryd.checked os 6 .any (fun w args => (Rows.ledgerPastSpec.pre enc Tryd.prog Tryd.f6 Rows.ledgerPastRow.domain false w args ∧ laidMetH Tryd.prog Rows.ledgerPastRow.laid w) ∧ sizedMet enc Tryd.prog Tryd.f6 (OpenSpec.ofChange Rows.ledgerPastSpec) false w args) (Rows.ledgerPastSpec.post enc Tryd.prog Tryd.f6 false true false false) := by
  refine lawTrueLaid (C := Tryd.checked) (tb := 4) df_own started (by kernel_rfl) Tryd.func6 df_laid rfl ?_ rfl Tryd.underlying4 (by kernel_rfl)
    (ChangeSpec.witness_shaped (enc := enc) (C := Tryd.checked) (os := os) (X := fun w _ => laidMetH Tryd.prog Rows.ledgerPastRow.laid w) false (World.doorLaid Tryd.prog 400 os) #[.slice none 0 0, .slice none 0 0] 8 rfl (World.shaped_of_RefB (by kernel_rfl) (by kernel_rfl)) (by kernel_rfl) (by kernel_rfl) (by kernel_rfl) (door_met os _)) ?_
  · intro ds hd
    match ds, hd with
    | [_, _], _ => exact ⟨rfl, rfl, rfl⟩
  · intro W base args ds p hval0 hA0 _ hL
    have hval : ∀ (j : Nat) t v, Tryd.f6.params[j]? = some t → args[j]? = some v → Value.okWide Tryd.prog W .any base t v := hval0
    have hA : DataW.TrodAll enc Tryd.prog W 0 (fun _ => true) true Tryd.f6.params.toList args.toList ds p := hA0
    rw [Tryd.params6] at hA hval
    obtain ⟨v0, v1, d0, d1, p0, p1, rfl, rfl, rfl, h0, h1⟩ := trodAll_n hA
    obtain ⟨lp, lc, l, rfl, la, lb, s0⟩ := open_sl (α := PushD) 12 Tryd.underlying49 (hval 0 49 v0 rfl rfl) (by kernel_rfl) h0
    obtain ⟨mp, mc, m, rfl, ma, mb, s1⟩ := open_sl (α := PushD) 12 Tryd.underlying49 (hval 1 49 v1 rfl rfl) (by kernel_rfl) h1
    have st0 : Stable (fun M w => Sl M w mp m) := inferInstance
    have st1 : Stable (fun M w => Sl M w lp l ∧ Sl M w mp m) := instStableAnd (fun M w => Sl M w lp l) (fun M w => Sl M w mp m)
    have st2 : Stable (fun M w => TabI M w ∧ Sl M w lp l ∧ Sl M w mp m) := instStableAnd (fun M w => TabI M w) (fun M w => Sl M w lp l ∧ Sl M w mp m)
    have fin : GivesIn (fun M w => TabI M w ∧ Sl M w lp l ∧ Sl M w mp m) Tryd.prog 6 _ (.bool true) := Past_in (Φ := (fun M w => TabI M w ∧ Sl M w lp l ∧ Sl M w mp m)) (p := lp) (cap := lc) (l := l) (r := mp) (cap2 := mc) (m := m) (hT := ⟨fun _ _ h => h.1⟩) (hL := ⟨fun _ _ h => h.2.1⟩) (by omega) (hM := ⟨fun _ _ h => h.2.2⟩) (by omega)
    exact fin.law ⟨la_tab 2 hL (by kernel_rfl) ⟨_, rfl⟩, s0, s1⟩

theorem row_holds : Rows.LedgerPastSaid :=
  OpenClaim.holds_of_wide 6 Tryd.f6 rfl rfl rfl rfl rfl rfl rfl ⟨rfl, rfl, rfl, rfl, rfl⟩ rfl rfl rfl rfl rfl (by kernel_rfl) Tryd.func6 (by kernel_rfl)
    (of_decide_eq_true (by kernel_rfl)) (by unfold Func.isWrapper; first | (rw [if_pos (by decide +kernel)]; kernel_rfl) | (rw [if_neg (by decide +kernel)]; exact ⟨rfl, rfl⟩))
    (fun os started H enc _ => law_lifted os started H enc)

theorem past_holds : Rows.LedgerPastCardSaid :=
  Claim7.holds_tied_plain_at .later [] [.data, .data, .data] true Rows.ledgerPastCard.stood.harness true
    row_holds (fun _ h => by cases h) (by kernel_rfl) (fun _ h => by cases h) ledgerPast_row_tie rfl ⟨rfl, rfl⟩ (by kernel_rfl) rfl
    (fun f fn hf hfn => by
      obtain rfl : f = 6 := Option.some.inj ((show Tryd.prog.funcNamed Rows.ledgerPastRow.func = some 6 by kernel_rfl).symm.trans hf) |>.symm
      obtain rfl : fn = Tryd.f6 := (Option.some.inj (Tryd.func6.symm.trans hfn)).symm
      exact ⟨by kernel_rfl, fun j t ht => by
        rw [Tryd.params6] at ht
        have hm := Array.mem_of_getElem? ht
        have hall : ((Tryd.f6.params.toList).all fun u => !Tryd.prog.wantsStandIn u) = true := by kernel_rfl
        rw [Tryd.params6] at hall
        exact (show Tryd.prog.wantsStandIn t = false by simpa using List.all_eq_true.1 hall t (by simpa using hm))⟩)
    (by kernel_rfl)

end Go.Proofs.YtbkpfhhhbhaecaaDoor
end

