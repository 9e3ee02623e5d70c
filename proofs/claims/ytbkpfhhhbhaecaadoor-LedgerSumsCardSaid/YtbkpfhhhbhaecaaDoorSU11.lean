/-
  For every input erratalaw41.LedgerSums returns true, does not panic, comes to an end, and leaves what came in as it was; the variables that its row lists are as the program's text lays them.
  Conditions: none beyond the given statement's own (LedgerSumsCardSaid).
-/
import Derived.Test.YtbkpfhhhbhaecaaDoorSU10
import Derived.Test.YtbkpfhhhbhaecaaDoorSU8
import Derived.Test.YtbkpfhhhbhaecaaDoorCards
import Derived.MakeChecks
import Derived.Stop.LaidErr
import Derived.Lib.LaidTab
import Derived.Test.YtbkpfhhhbhaecaaDoorTie
import Derived.SevenTiedAt
import Derived.LaidMore
import Derived.ChangeMaps5
import Derived.Test.YtbkpfhhhbhaecaaDoorRows

/-
  The law LedgerSums, walked.
-/
section
set_option linter.unusedVariables false
set_option linter.unusedSimpArgs false
namespace Go.Proofs.YtbkpfhhhbhaecaaDoor
open Go.Vc


section
variable {Φ : PW} {q : LP} {st : LedD} {W w : World} {R S G : List Own} {p : Option Addr} {cap : Nat}

/-- what lies beside the ledger is let go -/
theorem drop_mid [Stable Φ] {B : Own} (c : Ctx W w ((LedO q st ++ (B :: R)) ++ G) Φ) : Ctx W w ((LedO q st ++ R) ++ G) Φ :=
  c.sub (List.Sublist.append (List.Sublist.append (List.Sublist.refl _) (List.sublist_cons_self B R)) (List.Sublist.refl G))

theorem AddH [Stable Φ] {p : Option Addr} {cap : Nat} {a : List DeltaD} {r : Option Addr} {cap2 : Nat} {b : List DeltaD} [hΦ : Has Φ (fun M w => Sl M w p a)] [hΨ : Has Φ (fun M w => Sl M w r b)] (h1 : a.length ≤ cap) (h2 : cap ≤ maxLen) (h3 : b.length ≤ cap2) (h4 : cap2 ≤ maxLen)
    (ha : a.length ≤ 400000) (hb : b.length ≤ 400000) (hra : Rows1 a) (hrb : Rows1 b) : GivesSl Φ Tryd.prog F.delta_Add #[.slice p a.length cap, .slice r b.length cap2] (addP a b) id := Add_sl p cap a r cap2 b hΦ.go hΨ.go h1 h2 h3 h4 ha hb hra hrb

set_option maxHeartbeats 8000000 in
theorem Sums_pin [Stable Φ] [hT : Has Φ TabI] {l : List PushD} {g o : Nat} {cs : List (List Value)} (hp : 0 < l.length → p = some ⟨g, o, none⟩) (hP : ∀ M w, Φ M w → Pin g o cs l M w) (hlen : l.length ≤ maxLen) :
    GivesIn Φ Tryd.prog F.erratalaw41_LedgerSums #[.slice p l.length cap] (.bool true) := by
  refine ⟨fun W0 w0 S0 c0 => GivesIn.go (gives_in (Berratalaw41_LedgerSums_run p l.length cap) fun W R => ?_) W0 w0 S0 c0⟩
  have hpc : ∀ j (hj : j < l.length), ∃ p c, cs.getD j [] = l[j].cells p c ∧ l[j].l.length ≤ c ∧ c ≤ maxLen ∧ I64 l[j].batch ∧ I64 l[j].mark := fun j hj => pin_push (hP _ _ c0.phi) hj
  clear c0
  refine fun w G cx => small41_in.toB cx fun w G cx => (Few41_in hp hP hlen).toB cx ?_
  clear cx
  refine Br.intro (fun _ => fun w G cx => ⟨rfl, cx.left⟩) (fun hfew => ?_)
  obtain ⟨hl25, hpu⟩ := few_out (l := l) (n := 25) (by simpa using hfew)
  refine fun w G cx => New_to cx fun q0 hq0 st0 => Br.intro (fun h => by cases h) (fun _ => ?_)
  clear cx
  -- the ledger's place does not change
  obtain ⟨lb, hlb⟩ : ∃ lb, q0.lb = lb := ⟨_, rfl⟩
  refine exI_mk (fun iI R' Φ' k => ∃ (i : Nat) (q : LP) (st : LedD), iI = i ∧ i ≤ l.length ∧ q.lb = lb ∧ LedQ q st ∧ LedS st ∧ Inv st ∧ st.lines.length ≤ 12 * i ∧ st.bats.length ≤ i ∧ R' = LedO q st ++ R ∧ Φ' = (fun M w => Φ M w ∧ LF q st M w) ∧ k = l.length - i) ⟨⟨_, _, _, st0, fun w G cx => cx, 0, q0, ⟨[], []⟩, rfl, Nat.zero_le _, hlb, hq0, new_s, Inv.start, by simp, by simp, rfl, rfl, rfl⟩, ?_⟩
  clear st0 hq0
  rw [hlb]
  rintro iI R1 Φ1 k _ ⟨i, q, st, rfl, hi, hlb, hq, hs, hv, hn1, hn2, rfl, rfl, rfl⟩
  have hst : Stable (fun M w => Φ M w ∧ LF q st M w) := instStableAnd Φ (fun M w => LF q st M w)
  refine Br.intro (fun hlt => ?_) (fun hge => fun w G cx => ⟨rfl, (Ctx.has (Ctx.dropF (Q := LedO q st) cx)).left⟩)
  have hlt : i < l.length := by have := of_decide_eq_true hlt; omega
  obtain ⟨r, rc, he, k1, k2, k3, k4⟩ := hpc i hlt
  obtain ⟨x12, xrow⟩ := hpu l[i] (List.getElem_mem _)
  have hnl := net_len st.lines
  have hnr := net_rows hs.rows
  have hX := fitP_len l[i] (lastP st).no (lastP st).mark ((st.lines.length : Int) + 1)
  have hXr : ∀ y ∈ (fitOf st l[i]).l, y.row.length ≤ 13 ∧ ∀ v ∈ y.row, v.text.size ≤ 300 := fun y hy => by
    obtain ⟨z, hz, e⟩ := fitP_row _ _ _ _ y hy
    rw [e]; exact xrow z hz
  have hXb : I64 (fitOf st l[i]).batch := by
    unfold fitOf fitP
    split
    · exact w64_in _
    · exact k3
  obtain ⟨X, hXe⟩ : ∃ X, fitOf st l[i] = X := ⟨_, rfl⟩
  have hX : X.l.length = l[i].l.length := by rw [← hXe]; exact hX
  rw [hXe] at hXr hXb
  subst hlb
  refine fun w G cx => (Net_q hq hs).tot cx fun p1 c1 e1 e2 _ st1 => ?_
  clear cx
  refine fun w G cx => (Mark_q hq hs).toI cx ?_
  clear cx
  refine fun w G cx => (Bytes_q hq hs hv.bats).toS cx ?_
  clear cx
  have tree : FitTree p l.length (i : Int) (some ⟨q.lb, 0, none⟩) W (LedO q st ++ R) (fun M w => (Φ M w ∧ LF q st M w) ∧ Sl M w p1 (netP st.lines)) (fun kx z R' Φ' => ∃ p' c', z = 0 ∧ X.l.length ≤ c' ∧ c' ≤ maxLen ∧ R' = LedO q st ++ (.blk kx (X.cells p' c') 60 :: R) ∧ Φ' = (fun M w => ((Φ M w ∧ LF q st M w) ∧ Sl M w p1 (netP st.lines)) ∧ Sl M w p' X.l)) := by
    refine fit_tree hlt (hp (by omega)) (fun M w h => hP M w h.1.1) he k1 k2 (by omega) hq hs hv.mark fun kb p' c' m1 m2 m3 m4 => ?_
    rw [hXe] at m1 ⊢
    exact ⟨p', c', rfl, m1, m2, rfl, rfl⟩
  refine exI_mk (fun kx z R' Φ' => ∃ p' c', z = 0 ∧ X.l.length ≤ c' ∧ c' ≤ maxLen ∧ R' = LedO q st ++ (.blk kx (X.cells p' c') 60 :: R) ∧ Φ' = (fun M w => ((Φ M w ∧ LF q st M w) ∧ Sl M w p1 (netP st.lines)) ∧ Sl M w p' X.l)) ⟨tree, ?_⟩
  clear tree
  rintro kx z R2 Φ2 st2 ⟨p2, c2, rfl, f1, f2, rfl, rfl⟩
  have cb : ∀ {q : LP} {st : LedD} {Ψ : PW} {w : World} {G : List Own} {j : Nat} {v : Value}, (X.cells p2 c2)[j]? = some v → Ctx W w ((LedO q st ++ (.blk kx (X.cells p2 c2) 60 :: R)) ++ G) Ψ → w.cell? ⟨kx, 0 + j, none⟩ = some v := fun hv cx => by
    rw [Nat.zero_add]; exact cx.get 4 rfl hv
  refine fun w G cx => ⟨_, cb (j := 0) rfl cx, fun w G cx => ⟨_, cb (j := 1) rfl cx, fun w G cx => ⟨_, _, _, cb (j := 2) rfl cx, fun w G cx => ?_⟩⟩⟩
  refine Append_to (q := q) (st := st) (L := X.l) (no := X.batch) (mark := X.mark) hq hs hv.cnt (by omega) (fun y hy => by have := (hXr y hy).1; omega) (fun y hy v hv => by have := (hXr y hy).2 v hv; omega) cx (fun hz => ?_) fun q' hz hfit hlb2 hq' st3 => ?_
  · clear cx
    refine Br.intro (fun _ => ?_) (fun h => absurd hz (of_decide_eq_false h))
    refine fun w G cx => (Bytes_q hq hs hv.bats).toS cx ?_
    clear cx
    refine Br.intro (fun h => absurd rfl (of_decide_eq_true h)) (fun _ => ?_)
    refine fun w G cx => (Net_q hq hs).tot cx fun p3 c3 _ _ _ st4 => ?_
    clear cx
    refine fun w G cx => (EqualH (a := netP st.lines) (b := netP st.lines) (p := p3) (cap := c3) (r := p1) (cap2 := c1) (by have := hs.lines; omega)).toB cx ?_
    clear cx
    rw [decide_eq_true rfl]
    refine Br.intro (fun h => by cases h) (fun _ => ⟨by unfold I64; omega, LedO q st ++ R, _, l.length - (i + 1), hst, fun w G cx => drop_mid cx.has, ⟨i + 1, q, st, by omega, hlt, rfl, hq, hs, hv, by omega, by omega, rfl, rfl, rfl⟩, by omega⟩)
  clear cx
  have ac := check_ok hz
  have hl1 : (st.lines ++ X.l).length ≤ 12 * (i + 1) := by rw [List.length_append]; omega
  have hs' : LedS (appP st X.batch X.mark X.l) := app_s hs (fun y hy => (hXr y hy).1) (fun y hy => (hXr y hy).2) (by omega) (by omega)
  have hv' : Inv (appP st X.batch X.mark X.l) := hv.app hs ac hfit hXb
  have hla := last_app st X.batch X.mark X.l
  have hadd : netP (appP st X.batch X.mark X.l).lines = addP (netP st.lines) (netP X.l) := net_app _ _
  have hmul := net_multi hv' hs'
  have hup := net_upto hv'
  rw [hla] at hup
  have hup : uptoP (netP (appP st X.batch X.mark X.l).lines) X.mark = netP (appP st X.batch X.mark X.l).lines := hup
  have hbe := fun h => net_before hv ac (L := X.l) h
  have hb2 : (appP st X.batch X.mark X.l).bats.length ≤ i + 1 := by
    show (st.bats ++ [_]).length ≤ _
    rw [List.length_append]; exact Nat.add_le_add_right hn2 1
  have hl2 : (appP st X.batch X.mark X.l).lines.length ≤ 12 * (i + 1) := hl1
  rw [← hlb2]
  obtain ⟨s2, hs2⟩ : ∃ s2, appP st X.batch X.mark X.l = s2 := ⟨_, rfl⟩
  rw [hs2] at hq' st3 hs' hv' hla hadd hmul hup hbe hb2 hl2 ⊢
  have hnl2 := net_len s2.lines
  have hnl3 := net_len X.l
  have hnr2 := net_rows hs'.rows
  have hnr3 := net_rows (l := X.l) fun y hy => by have := (hXr y hy).1; omega
  have back : ∀ {Ψ : PW} (h1 : Has Ψ Φ) (h2 : Has Ψ (LF q' s2)) (h3 : Stable Ψ), I64 ((i : Int) + 1) ∧ ∃ (R' : List Own) (Φ' : PW) (k : Nat), Stable Φ' ∧ (∀ (w : World) (G : List Own), Ctx W w ((LedO q' s2 ++ (.blk kx (X.cells p2 c2) 60 :: R)) ++ G) Ψ → Ctx W w (R' ++ G) Φ') ∧
      (∃ (j : Nat) (q : LP) (st : LedD), ((i : Int) + 1) = j ∧ j ≤ l.length ∧ q.lb = q'.lb ∧ LedQ q st ∧ LedS st ∧ Inv st ∧ st.lines.length ≤ 12 * j ∧ st.bats.length ≤ j ∧ R' = LedO q st ++ R ∧ Φ' = (fun M w => Φ M w ∧ LF q st M w) ∧ k = l.length - j) ∧ k < l.length - i := fun {Ψ} h1 h2 h3 =>
    ⟨by unfold I64; omega, LedO q' s2 ++ R, _, l.length - (i + 1), instStableAnd Φ (fun M w => LF q' s2 M w), fun w G cx => drop_mid cx.has, ⟨i + 1, q', s2, by omega, hlt, rfl, hq', hs', hv', hl2, hb2, rfl, rfl, rfl⟩, by omega⟩
  refine Br.intro (fun h => absurd rfl (of_decide_eq_true h)) (fun _ => ?_)
  refine fun w G cx => (Net_q hq' hs').tot cx fun p3 c3 e3 e4 _ st4 => ?_
  clear cx
  refine exI_mk (fun lt jI R' Φ' k => ∃ j : Nat, jI = j ∧ j ≤ X.l.length ∧ lt = (X.l.take j).any (fun x => decide (x.cause ≠ 0)) ∧ R' = LedO q' s2 ++ (.blk kx (X.cells p2 c2) 60 :: R) ∧ Φ' = (fun M w => ((((Φ M w ∧ LF q st M w) ∧ Sl M w p1 (netP st.lines)) ∧ Sl M w p2 X.l) ∧ LF q' s2 M w) ∧ Sl M w p3 (netP s2.lines)) ∧ k = X.l.length - j) ⟨⟨_, _, _, st4, fun w G cx => cx, 0, rfl, Nat.zero_le _, rfl, rfl, rfl, rfl⟩, ?_⟩
  rintro lt jI R3 Φ3 k5 st5 ⟨j, rfl, hj, rfl, rfl, rfl, rfl⟩
  refine fun w G cx => ⟨_, _, _, cb (j := 2) rfl cx, ?_⟩
  have hth := cx.phi.1.1.2.there
  clear cx
  refine Br.intro (fun hlt2 => fun w G cx => ⟨_, _, _, fun _ => cb (j := 2) rfl cx, fun _ => ?_, ?_⟩) (fun hge2 => fun w G cx => ⟨_, _, _, cb (j := 2) rfl cx, ?_⟩)
  · have := of_decide_eq_true hlt2; omega
  · have hlt2 : j < X.l.length := by have := of_decide_eq_true hlt2; omega
    obtain ⟨gx, ox, hpx⟩ := hth (by omega)
    subst hpx
    refine ptrK_intro gx ox rfl ⟨X.l[j].cause, fun _ => ?_, by unfold I64; omega, _, _, X.l.length - (j + 1), st5, fun w G cx => cx, ⟨j + 1, by omega, hlt2, ?_, rfl, rfl, rfl⟩, by omega⟩
    · obtain ⟨b', o', cs', e', _, h5, h6⟩ := cx.phi.1.1.2 j hlt2
      cases e'
      obtain ⟨p9, c9, rfl, _⟩ := line_cells h6
      rw [Int.toNat_natCast]
      exact h5 5 (by simp)
    · rw [List.take_succ_eq_append_getElem hlt2, List.any_append]
      simp
  · have hge2 : j = X.l.length := by have := of_decide_eq_false hge2; omega
    subst hge2
    clear cx
    rw [List.take_length]
    refine fun w G cx => (Net41_sl (l := X.l) (by omega) (fun y hy => by have := (hXr y hy).1; omega)).to cx fun p4 c4 e5 e6 st6 => ?_
    clear cx
    refine fun w G cx => (AddH (a := netP st.lines) (b := netP X.l) (p := p1) (r := p4) e1 e2 e5 e6 (by omega) (by omega) hnr hnr3).to cx fun p5 c5 e7 e8 st7 => ?_
    clear cx
    refine fun w G cx => (EqualH (a := netP s2.lines) (b := addP (netP st.lines) (netP X.l)) (p := p3) (cap := c3) (r := p5) (cap2 := c5) (by omega)).toB cx ?_
    clear cx
    rw [decide_eq_true hadd]
    refine Br.intro (fun h => by cases h) (fun _ => ?_)
    refine fun w G cx => (Multi_in (l := netP s2.lines) (p := p3) (cap := c3) (by omega) hnr2).toB cx ?_
    clear cx
    rw [hmul]
    refine Br.intro (fun h => by cases h) (fun _ => ?_)
    refine fun w G cx => (Mark_q hq' hs').toI cx ?_
    clear cx
    rw [hla]
    refine fun w G cx => (Upto_q (t := X.mark) hq' hs').tot cx fun p6 c6 _ _ _ st8 => ?_
    clear cx
    rw [hup] at st8 ⊢
    refine fun w G cx => (EqualH (a := netP s2.lines) (b := netP s2.lines) (p := p6) (cap := c6) (r := p3) (cap2 := c3) (by omega)).toB cx ?_
    clear cx
    rw [decide_eq_true rfl]
    refine Br.intro (fun h => by cases h) (fun _ => ⟨_, _, inferInstance, fun w G cx => cx, X.mark, fun w G cx => ⟨_, cb (j := 1) rfl cx, rfl⟩, fun w G cx => ?_⟩)
    refine (Mark_q hq' hs').toI cx ⟨fun w G cx => cx, _, _, inferInstance, fun w G cx => cx, ?_⟩
    clear cx
    rw [hla]
    refine Br.intro (fun h => absurd rfl (of_decide_eq_true h)) (fun _ => ⟨X.batch, fun w G cx => ⟨_, cb (j := 0) rfl cx, rfl⟩, fun w G cx => ?_⟩)
    refine (Last_q hq' hs').toI cx ⟨fun w G cx => cx, _, _, inferInstance, fun w G cx => cx, ?_⟩
    clear cx
    rw [hla]
    refine Br.intro (fun h => absurd rfl (of_decide_eq_true h)) (fun _ => Br.intro (fun hlat => fun w G cx => ?_) (fun _ => back inferInstance inferInstance inferInstance))
    have hlat : (X.l.any fun x => decide (x.cause ≠ 0)) = false := by simpa using hlat
    refine (Upto_q (t := (lastP st).mark) hq' hs').tot cx fun p7 c7 _ _ _ st9 => ?_
    clear cx
    rw [hbe hlat] at st9 ⊢
    refine ⟨fun w G cx => cx.fst, fun w G cx => (EqualH (a := netP st.lines) (b := netP st.lines) (p := p7) (cap := c7) (r := p1) (cap2 := c1) (by omega)).toB cx ?_⟩
    clear cx
    rw [decide_eq_true rfl]
    exact Br.intro (fun h => by cases h) (fun _ => back inferInstance inferInstance inferInstance)

theorem Sums_in [Stable Φ] [hT : Has Φ TabI] {l : List PushD} [hL : Has Φ (fun M w => Sl M w p l)] (hlen : l.length ≤ maxLen) : GivesIn Φ Tryd.prog F.erratalaw41_LedgerSums #[.slice p l.length cap] (.bool true) :=
  .pinned hL.go fun g o cs hp => Sums_pin (Φ := fun M w => Φ M w ∧ Pin g o cs l M w) hp (fun M w h => h.2) hlen
end
end Go.Proofs.YtbkpfhhhbhaecaaDoor
end

/-
  From what a row lists as laid to the table of the powers of ten.
-/
section
set_option linter.unusedVariables false
set_option linter.unusedSimpArgs false
namespace Go.Proofs.YtbkpfhhhbhaecaaDoor
open Go.Vc Go.RowKit

theorem tab_drop {P : Program} {w : World} : ∀ (n : Nat) {l : List (String × DataW Unit)}, laidMet P l w → laidMet P (l.drop n) w
  | 0, l, h => by rw [List.drop_zero]; exact h
  | n + 1, [], h => h
  | n + 1, x :: l, h => by rw [List.drop_succ_cons]; exact tab_drop n h.tail
/-- the table, out of a list that has it at the n-th place -/
theorem la_tab {W : World} {l : List (String × DataW Unit)} (n : Nat) (h : laidMetH Tryd.prog l W) (hp : (l.all fun x => x.2.handleName?.isNone) = true) (hd : ∃ r, l.drop n = ("internal/strconv.uint64pow10", Lib.tabData .u64 Lib.pow10Tab) :: r) : TabI [] W := by
  rw [MakeChecks.laidMetH_plain Tryd.prog l W hp] at h
  obtain ⟨r, hr⟩ := hd
  have h2 := tab_drop n h
  rw [hr] at h2
  exact Tab.start (Lib.tabIs_of_head (k := .u64) (zs := Lib.pow10Tab) (g := 1) (t := 189) (e := 182) (n := 20) (by kernel_rfl) (by kernel_rfl) (by kernel_rfl) (by kernel_rfl) (by kernel_rfl) (by kernel_rfl) h2)

end Go.Proofs.YtbkpfhhhbhaecaaDoor
end

section
set_option linter.unusedVariables false
set_option linter.unusedSimpArgs false
namespace Go.Proofs.YtbkpfhhhbhaecaaDoor
open Go.ChangeShapes Go.WideShapes Go.ChangeAt Go.RowKit Go.Vc


theorem df_own : ownKnob Tryd.prog.godebug = none := by kernel_rfl
theorem df_laid : laidOutB Tryd.prog = true := by kernel_rfl

theorem trodAll_n {H : Type} {enc : TypeId × Value → H} {P : Program} {w : World} {base : Nat} {spare : Nat → Bool} {held : Bool} {t0 : TypeId} {args : Array Value} {ds : List (DataW H)} {ps : List MemPlace} (h : DataW.TrodAll enc P w base spare held [t0] args.toList ds ps) :
    ∃ v0 d0 p0, args = #[v0] ∧ ds = [d0] ∧ ps = p0 ∧ DataW.Trod enc P w base spare held t0 v0 d0 p0 := by
  obtain ⟨v0, vs0, d0, ds0, p0, q0, hargs, rfl, rfl, h0, h⟩ := trodAll_cons h
  obtain ⟨rfl, rfl, rfl⟩ := trodAll_nil h
  exact ⟨v0, d0, p0, by cases args; simp_all, rfl, by simp, h0⟩

theorem door_met (os : Os) (args : Array Value) : laidMetH Tryd.prog Rows.ledgerSumsRow.laid ((World.doorLaid Tryd.prog 400 os).forCall (fun _ _ => 0) ⟨#[], args, []⟩).memory :=
  laidMetH_of_parts3 (fuel := 8) (laidMet_of_run' 8 (by kernel_rfl) (by kernel_rfl)) (by kernel_rfl) (by kernel_rfl)

set_option maxRecDepth 100000 in
theorem law_lifted (os : Os) (started : os.Started) (H : Type) (enc : TypeId × Value → H) :
    ReturnsInHanded {} Tryd.checked os 9 .any (fun w args => (Rows.ledgerSumsSpec.pre enc Tryd.prog Tryd.f9 Rows.ledgerSumsRow.domain false w args ∧ laidMetH Tryd.prog Rows.ledgerSumsRow.laid w) ∧ sizedMet enc Tryd.prog Tryd.f9 (OpenSpec.ofChange Rows.ledgerSumsSpec) false w args) (Rows.ledgerSumsSpec.post enc Tryd.prog Tryd.f9 false true false false) := by
  refine lawTrueLaid (C := Tryd.checked) (tb := 4) df_own started (by kernel_rfl) Tryd.func9 df_laid rfl ?_ rfl Tryd.underlying4 (by kernel_rfl)
    (ChangeSpec.witness_shaped (enc := enc) (C := Tryd.checked) (os := os) (X := fun w _ => laidMetH Tryd.prog Rows.ledgerSumsRow.laid w) false (World.doorLaid Tryd.prog 400 os) #[.slice none 0 0] 8 rfl (World.shaped_of_RefB (by kernel_rfl) (by kernel_rfl)) (by kernel_rfl) (by kernel_rfl) (by kernel_rfl) (door_met os _)) ?_
  · intro ds hd
    match ds, hd with
    | [_], _ => exact ⟨rfl, rfl, rfl⟩
  · intro W base args ds p hval0 hA0 _ hL
    have hval : ∀ (j : Nat) t v, Tryd.f9.params[j]? = some t → args[j]? = some v → Value.okWide Tryd.prog W .any base t v := hval0
    have hA : DataW.TrodAll enc Tryd.prog W 0 (fun _ => true) true Tryd.f9.params.toList args.toList ds p := hA0
    rw [Tryd.params9] at hA hval
    obtain ⟨v0, d0, p0, rfl, rfl, rfl, h0⟩ := trodAll_n hA
    obtain ⟨lp, lc, l, rfl, la, lb, s0⟩ := open_sl (α := PushD) 12 Tryd.underlying49 (hval 0 49 v0 rfl rfl) (by kernel_rfl) h0
    have st0 : Stable (fun M w => Sl M w lp l) := inferInstance
    have st1 : Stable (fun M w => TabI M w ∧ Sl M w lp l) := instStableAnd (fun M w => TabI M w) (fun M w => Sl M w lp l)
    have fin : GivesIn (fun M w => TabI M w ∧ Sl M w lp l) Tryd.prog 9 _ (.bool true) := Sums_in (Φ := (fun M w => TabI M w ∧ Sl M w lp l)) (p := lp) (cap := lc) (l := l) (hT := ⟨fun _ _ h => h.1⟩) (hL := ⟨fun _ _ h => h.2⟩) (by omega)
    exact fin.law ⟨la_tab 2 hL (by kernel_rfl) ⟨_, rfl⟩, s0⟩

theorem row_holds : Rows.LedgerSumsSaid :=
  OpenClaim.holds_of_wide 9 Tryd.f9 rfl rfl rfl rfl rfl rfl rfl ⟨rfl, rfl, rfl, rfl, rfl⟩ rfl rfl rfl rfl rfl (by kernel_rfl) Tryd.func9 (by kernel_rfl)
    (of_decide_eq_true (by kernel_rfl)) (by unfold Func.isWrapper; first | (rw [if_pos (by decide +kernel)]; kernel_rfl) | (rw [if_neg (by decide +kernel)]; exact ⟨rfl, rfl⟩))
    (fun os started H enc _ => law_lifted os started H enc)

theorem sums_holds : Rows.LedgerSumsCardSaid :=
  Claim7.holds_tied_plain_at .later [] [.data, .data, .data] true Rows.ledgerSumsCard.stood.harness true
    row_holds (fun _ h => by cases h) (by kernel_rfl) (fun _ h => by cases h) ledgerSums_row_tie rfl ⟨rfl, rfl⟩ (by kernel_rfl) rfl
    (fun f fn hf hfn => by
      obtain rfl : f = 9 := Option.some.inj ((show Tryd.prog.funcNamed Rows.ledgerSumsRow.func = some 9 by kernel_rfl).symm.trans hf) |>.symm
      obtain rfl : fn = Tryd.f9 := (Option.some.inj (Tryd.func9.symm.trans hfn)).symm
      exact ⟨by kernel_rfl, fun j t ht => by
        rw [Tryd.params9] at ht
        have hm := Array.mem_of_getElem? ht
        have hall : ((Tryd.f9.params.toList).all fun u => !Tryd.prog.wantsStandIn u) = true := by kernel_rfl
        rw [Tryd.params9] at hall
        exact (show Tryd.prog.wantsStandIn t = false by simpa using List.all_eq_true.1 hall t (by simpa using hm))⟩)
    (by kernel_rfl)

end Go.Proofs.YtbkpfhhhbhaecaaDoor
end

