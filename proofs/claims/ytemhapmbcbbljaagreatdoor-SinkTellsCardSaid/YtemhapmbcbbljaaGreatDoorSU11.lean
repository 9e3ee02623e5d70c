/-
  For every input erratalaw43.SinkTells returns true, does not panic, comes to an end, and leaves what came in as it was; the variables that its row lists are as the program's text lays them.
  Conditions: none beyond the given statement's own (SinkTellsCardSaid).
-/
import Derived.Test.YtemhapmbcbbljaaGreatDoorSU10
import Derived.Test.YtemhapmbcbbljaaGreatDoorSU7
import Derived.MapKept
import Derived.Test.YtemhapmbcbbljaaGreatDoorSU6
import Derived.WalkKit
import Derived.OwnWalkIn
import Derived.TacticsInMore
import Derived.LoopNIn
import Derived.LoopIn
import Derived.Test.YtemhapmbcbbljaaGreatDoorSU9
import Derived.Test.YtemhapmbcbbljaaGreatDoorCards
import Derived.MakeChecks
import Derived.Stop.LaidErr
import Derived.Lib.LaidTab
import Derived.Test.YtemhapmbcbbljaaGreatDoorTie
import Derived.SevenTiedAt
import Derived.LaidMore
import Derived.ChangeMaps5
import Derived.Test.YtemhapmbcbbljaaGreatDoorRows

set_option linter.unusedVariables false
set_option linter.unusedSimpArgs false
section
namespace Go.Proofs.YtemhapmbcbbljaaGreatDoor
open Go.Vc
theorem net_row {st : SkD} (hI : SkI st) : ∀ d ∈ netP st.lines, d.row.length ≤ 12 := fun d hd => by
  have := consP_row (P := fun r => r.length ≤ 12) (l := st.lines.map LineD.d) (fun x hx => by
    obtain ⟨y, hy, rfl⟩ := List.mem_map.1 hx
    exact right_len (hI.row y hy)) d hd
  exact this
section
variable {Φ : PW} {q : KP} {st : SkD} {W w : World} {R S G : List Own} {p : Option Addr} {cap : Nat} {L : List LineD} {cs : List Value}
set_option maxHeartbeats 2000000 in
theorem NetS_q [Stable Φ] [hF : Has Φ (SkF q st)] (hq : SkQ q st) (hI : SkI st) {n : Nat} (hs : SkS st n) (hn : n ≤ 400000) : GivesQSl (SkO q st) Φ Tryz.prog F.sink_Sink_Net #[snk q] (netP st.lines) := by
  have hll := hs.lines
  have hrow : ∀ x ∈ st.lines, x.row.length ≤ 1000000 := fun x hx => by have := right_len (hI.row x hx); omega
  refine gives_qsl (Bsink_Sink_Net_run q.sb 0) fun W R => fun w G cx => ⟨q.lp, st.lines.length, q.lc, sk_cell (i := 3) cx rfl, ?_⟩
  clear cx
  have src : Src (SkO q st ++ R) Φ q.lp st.lines q.cs := (src_sk hq fun M w h => (hF.go M w h).1).app
  obtain ⟨S, hS⟩ : ∃ S, SkO q st ++ R = S := ⟨_, rfl⟩
  obtain ⟨l, hl⟩ : ∃ l, st.lines = l := ⟨_, rfl⟩
  rw [hS] at src ⊢
  rw [hl] at src hll hrow ⊢
  refine exI_mk (fun sp sn sc iI R' Φ' k => ∃ (i : Nat) (ds : List Value), iI = i ∧ i ≤ l.length ∧ sn = ((l.take i).map LineD.d).length ∧ R' = .buf sp sn sc ds 71 3 :: S ∧ Φ' = (fun M w => Φ M w ∧ Elems M w ds ((l.take i).map LineD.d)) ∧ k = l.length - i)
    ⟨⟨.buf none 0 0 [] 71 3 :: S, fun M w => Φ M w ∧ Elems M w [] ((l.take 0).map LineD.d), _, inferInstance, fun w G cx => (cx.weak fun M w h => ⟨h, Elems.nil⟩).nobuf 71 3, 0, [], rfl, Nat.zero_le _, rfl, rfl, rfl, rfl⟩, ?_⟩
  rintro sp _ sc iI R1 Φ1 k _ ⟨i, ds, rfl, hi, rfl, rfl, rfl, rfl⟩
  have hln : ((l.take i).map LineD.d).length = i := by simp; omega
  refine Br.intro (fun hlt => ?_) (fun hge => fun w G cx => ?_)
  · have hlt : i < l.length := by have := of_decide_eq_true hlt; omega
    obtain ⟨b, o, hp⟩ := src.ptr (by omega)
    refine ⟨by omega, ptrK_intro b o hp fun w G cx => ?_⟩
    obtain ⟨r, rc, hr, he, h1, h2, h3⟩ := src_row src hp (Ctx.drop1 cx).fst hlt
    refine ⟨l[i].no, l[i].batch, l[i].time, r, l[i].row.length, rc, l[i].n, l[i].cause, l[i].why, by rw [Int.toNat_natCast]; exact hr, fun _ kb w G cx => ?_⟩
    obtain ⟨p', c', w', hrun, cx'⟩ := pushLD (x := l[i]) (PS := Φ) (fun M w h => src_sl src hlt he h) h1 h2 h3 (by omega) cx
    have htk : (l.take (i + 1)).map LineD.d = (l.take i).map LineD.d ++ [l[i].d] := by rw [List.take_succ_eq_append_getElem hlt, List.map_append]; rfl
    rw [← htk] at hrun cx'
    have hst3 : Stable (fun M w => Φ M w ∧ Elems M w (ds ++ l[i].d.cells r rc) ((l.take (i + 1)).map LineD.d)) := inferInstance
    exact ⟨p', _, c', w', hrun, _, _, hst3, cx', by unfold I64; omega, _, _, l.length - (i + 1), hst3, fun w G cx => cx, ⟨i + 1, _, by omega, hlt, rfl, rfl, rfl, rfl⟩, by omega⟩
  · have hi : i = l.length := by have := of_decide_eq_false hge; omega
    subst hi
    rw [List.take_length] at cx ⊢
    obtain ⟨cx3, hs, _⟩ := Ctx.freeze (α := DeltaD) cx.fst cx.phi.2
    have hst4 : Stable (fun M w => Φ M w ∧ Sl M w sp (l.map LineD.d)) := inferInstance
    refine (Consolidate_sl (Φ := fun M w => Φ M w ∧ Sl M w sp (l.map LineD.d)) sp sc (l.map LineD.d) (fun M w h => h.2) (by simp; omega) (fun x hx => ?_)).use (cx3.add hs) fun p3 c3 w h1 h2 cx => ⟨p3, _, c3, rfl, S, fun M w => Φ M w ∧ Sl M w p3 (netP l), inferInstance, cx.weak fun M w h => ⟨h.1.1, h.2⟩, fun w G cx => ⟨p3, c3, rfl, h1, h2, cx.left⟩⟩
    obtain ⟨y, hy, rfl⟩ := List.mem_map.1 hx
    exact hrow y hy
set_option maxHeartbeats 2000000 in
theorem Net43_src [Stable Φ] (hq : RkQ q st) (hI : SkI st) (hll : st.lines.length ≤ 400000) (src : Src [] Φ q.lp st.lines cs) (hc : Rows7 cs st.lines) : GivesQSl (RkO q st) Φ Tryz.prog F.errataref43_Sink_Net #[snk q] (netP st.lines) := by
  have hrow : ∀ x ∈ st.lines, x.row.length ≤ 1000000 := fun x hx => by have := right_len (hI.row x hx); omega
  refine gives_qsl (Berrataref43_Sink_Net_run q.sb 0) fun W R => ?_
  have hcell : ∀ {w : World} {G : List Own} {Ψ : PW}, Ctx W w ((RkO q st ++ R) ++ G) Ψ → w.cell? ⟨q.sb, 0 + 3, none⟩ = some (.slice q.lp st.lines.length q.lc) := fun {w G Ψ} cx => rk_cell (i := 3) cx rfl
  obtain ⟨l, hl⟩ : ∃ l, st.lines = l := ⟨_, rfl⟩
  obtain ⟨S, hS⟩ : ∃ S, RkO q st ++ R = S := ⟨_, rfl⟩
  rw [hS] at hcell ⊢
  rw [hl] at src hc hll hrow hcell ⊢
  refine exI_mk (fun sp sn sc iI R' Φ' k => ∃ (i : Nat) (ds : List Value), iI = i ∧ i ≤ l.length ∧ sn = ((l.take i).map LineD.d).length ∧ R' = .buf sp sn sc ds 71 3 :: S ∧ Φ' = (fun M w => Φ M w ∧ Elems M w ds ((l.take i).map LineD.d)) ∧ k = l.length - i)
    ⟨⟨.buf none 0 0 [] 71 3 :: S, fun M w => Φ M w ∧ Elems M w [] ((l.take 0).map LineD.d), _, inferInstance, fun w G cx => (cx.weak fun M w h => ⟨h, Elems.nil⟩).nobuf 71 3, 0, [], rfl, Nat.zero_le _, rfl, rfl, rfl, rfl⟩, ?_⟩
  rintro sp _ sc iI R1 Φ1 k _ ⟨i, ds, rfl, hi, rfl, rfl, rfl, rfl⟩
  have hln : ((l.take i).map LineD.d).length = i := by simp; omega
  refine fun w G cx => ⟨q.lp, l.length, q.lc, hcell (Ctx.drop1 cx), ?_⟩
  clear cx
  refine Br.intro (fun hlt => ?_) (fun hge => fun w G cx => ?_)
  · have hlt : i < l.length := by have := of_decide_eq_true hlt; omega
    obtain ⟨b, o, hp⟩ := src.ptr (by omega)
    obtain ⟨r, rc, he, h1, h2, h3⟩ := hc i hlt
    have hr : ∀ {w : World} {G : List Own}, Ctx W w ((.buf sp ((l.take i).map LineD.d).length sc ds 71 3 :: S) ++ G) (fun M w => Φ M w ∧ Elems M w ds ((l.take i).map LineD.d)) → RowAt w b (o + i * 7) (l[i].cells r rc) := fun {w G} cx => src_at (S := []) src hp (G := S ++ G) (Ctx.drop1 cx).fst he
    refine ⟨_, _, inferInstance, fun w G cx => cx, q.lp, l.length, q.lc, fun w G cx => ⟨_, _, _, hcell (Ctx.drop1 cx), rfl⟩, q.lp, l.length, q.lc, fun w G cx => ⟨_, _, _, hcell (Ctx.drop1 cx), rfl⟩, q.lp, l.length, q.lc, fun w G cx => ⟨_, _, _, hcell (Ctx.drop1 cx), rfl⟩, by omega, ptrK_intro b o hp ⟨by omega, ptrK_intro b o hp ⟨by omega, ptrK_intro b o hp
      ⟨l[i].time, fun w G cx => ⟨_, by rw [Int.toNat_natCast]; exact hr cx 2 (by show 2 < 7; decide), rfl⟩, r, l[i].row.length, rc, fun w G cx => ⟨_, _, _, by rw [Int.toNat_natCast]; exact hr cx 3 (by show 3 < 7; decide), rfl⟩, l[i].n, fun w G cx => ⟨_, by rw [Int.toNat_natCast]; exact hr cx 4 (by show 4 < 7; decide), rfl⟩, fun kb => ⟨fun w G cx => Ctx.drop1 cx, fun w G cx => ?_⟩⟩⟩⟩⟩
    obtain ⟨p', c', w', hrun, cx'⟩ := pushLD (x := l[i]) (PS := Φ) (fun M w h => src_sl src hlt he h) h1 h2 h3 (by omega) cx
    have htk : (l.take (i + 1)).map LineD.d = (l.take i).map LineD.d ++ [l[i].d] := by rw [List.take_succ_eq_append_getElem hlt, List.map_append]; rfl
    rw [← htk] at hrun cx'
    have hst3 : Stable (fun M w => Φ M w ∧ Elems M w (ds ++ l[i].d.cells r rc) ((l.take (i + 1)).map LineD.d)) := inferInstance
    exact ⟨p', _, c', w', hrun, _, _, hst3, cx', by unfold I64; omega, _, _, l.length - (i + 1), hst3, fun w G cx => cx, ⟨i + 1, _, by omega, hlt, rfl, rfl, rfl, rfl⟩, by omega⟩
  · have hi : i = l.length := by have := of_decide_eq_false hge; omega
    subst hi
    rw [List.take_length] at cx ⊢
    obtain ⟨cx3, hs, _, k1, k2⟩ := Ctx.freeze (α := DeltaD) cx.fst cx.phi.2
    have hst4 : Stable (fun M w => Φ M w ∧ Sl M w sp (l.map LineD.d)) := inferInstance
    refine (Cons28_sl (Φ := fun M w => Φ M w ∧ Sl M w sp (l.map LineD.d)) sp sc (l.map LineD.d) (fun M w h => h.2) k1 k2 (by simp; omega) (fun x hx => ?_)).use (cx3.add hs) fun p3 c3 w h1 h2 cx => ⟨p3, _, c3, rfl, S, fun M w => Φ M w ∧ Sl M w p3 (netP l), inferInstance, cx.weak fun M w h => ⟨h.1.1, h.2⟩, fun w G cx => ⟨p3, c3, rfl, h1, h2, cx.left⟩⟩
    obtain ⟨y, hy, rfl⟩ := List.mem_map.1 hx
    exact hrow y hy
theorem Net43_q [Stable Φ] [hF : Has Φ (RkF q st)] (hq : RkQ q st) (hI : SkI st) (hll : st.lines.length ≤ 400000) : GivesQSl (RkO q st) Φ Tryz.prog F.errataref43_Sink_Net #[snk q] (netP st.lines) :=
  ⟨fun W w S c => by
    have hth := (hF.go _ _ c.phi).1.there
    obtain ⟨cs, c1⟩ := srcOf c (hF.go _ _ c.phi).1
    exact ((Net43_src (Φ := fun M w => Φ M w ∧ SrcF q.lp st.lines cs M w) hq hI hll (src_fact (Φ := fun M w => Φ M w ∧ SrcF q.lp st.lines cs M w) hth fun M w h => h.2) (rows7 c1.phi.2.2)).go W w S c1).mono fun e w' ⟨p, cap, he, g1, g2, c2⟩ => ⟨p, cap, he, g1, g2, c2.weak fun M w h => ⟨h.1.1, h.2⟩⟩⟩
end
end Go.Proofs.YtemhapmbcbbljaaGreatDoor
end

section
namespace Go.Proofs.YtemhapmbcbbljaaGreatDoor
open Go.Vc
def v00 : ValD := ⟨0, 0, ByteArray.empty⟩
def keyR (key : List Int) (r : List ValD) : List ValD := key.map fun k => r.getD k.toNat v00
def sameK (key : List Int) (a b : List ValD) : Bool := decide (keyR key a = keyR key b)
def laterK (key : List Int) (d : DeltaD) (l : List DeltaD) : Bool := l.any fun y => !decide (y.n < 1) && sameK key d.row y.row
def liveK (key : List Int) (d : DeltaD) (l : List DeltaD) : Bool := decide (0 < d.n) && !laterK key d l
def cellsK (key : List Int) : List DeltaD → List DeltaD
  | [] => []
  | d :: l => if liveK key d l = true then d :: cellsK key l else cellsK key l
def skCells (st : SkD) : List DeltaD := if st.kind = 1 then cellsK st.key (netP st.lines) else []
def FitK (key : List Int) (r : List ValD) : Prop := ∀ k ∈ key, 0 ≤ k ∧ k < r.length
theorem cellsK_len (key : List Int) : ∀ l : List DeltaD, (cellsK key l).length ≤ l.length
  | [] => Nat.le_refl _
  | d :: l => by
    have := cellsK_len key l
    unfold cellsK
    split
    · rw [List.length_cons, List.length_cons]; omega
    · rw [List.length_cons]; omega
def preK (key : List Int) : Nat → List DeltaD → List DeltaD
  | 0, _ => []
  | _, [] => []
  | i + 1, d :: l => if liveK key d l = true then d :: preK key i l else preK key i l
theorem preK_all (key : List Int) : ∀ l : List DeltaD, preK key l.length l = cellsK key l
  | [] => rfl
  | d :: l => by
    rw [List.length_cons]
    unfold preK cellsK
    rw [preK_all key l]
theorem preK_step (key : List Int) : ∀ (l : List DeltaD) (i : Nat) (h : i < l.length), preK key (i + 1) l = preK key i l ++ (if liveK key l[i] (l.drop (i + 1)) = true then [l[i]] else [])
  | d :: l, 0, _ => by
    show (if liveK key d l = true then d :: preK key 0 l else preK key 0 l) = [] ++ _
    unfold preK
    simp only [List.nil_append, List.getElem_cons_zero, List.drop_succ_cons, List.drop_zero]
  | d :: l, i + 1, h => by
    have ih := preK_step key l i (by simpa using h)
    show (if liveK key d l = true then d :: preK key (i + 1) l else preK key (i + 1) l) = (if liveK key d l = true then d :: preK key i l else preK key i l) ++ _
    rw [ih]
    simp only [List.getElem_cons_succ, List.drop_succ_cons]
    split
    · rfl
    · rfl
theorem preK_len (key : List Int) (l : List DeltaD) : ∀ i, (preK key i l).length ≤ l.length := by
  induction l with
  | nil => intro i; cases i <;> exact Nat.le_refl _
  | cons d l ih =>
    intro i
    cases i with
    | zero => exact Nat.zero_le _
    | succ i =>
      have := ih i
      unfold preK
      split
      · rw [List.length_cons, List.length_cons]; omega
      · rw [List.length_cons]; omega
theorem keyR_take_succ {key : List Int} {a b : List ValD} {j : Nat} (h : j < key.length) : decide (keyR (key.drop j) a = keyR (key.drop j) b) = (decide (a.getD (key[j]).toNat v00 = b.getD (key[j]).toNat v00) && decide (keyR (key.drop (j + 1)) a = keyR (key.drop (j + 1)) b)) := by
  rw [List.drop_eq_getElem_cons h]
  unfold keyR
  rw [List.map_cons, List.map_cons, Bool.eq_iff_iff]
  simp
theorem val_dec (x y : ValD) : (decide (x.kind = y.kind) && (decide (x.num = y.num) && (decide (x.text = y.text) && true))) = decide (x = y) := by
  rw [Bool.eq_iff_iff]
  simp [val_ext, and_assoc]
theorem later_step {key : List Int} {d : DeltaD} {l : List DeltaD} {i k : Nat} (hi : i ≤ k) (hk : k < l.length) : laterK key d ((l.take (k + 1)).drop i) = (laterK key d ((l.take k).drop i) || (!decide (l[k].n < 1) && sameK key d.row l[k].row)) := by
  have e : (l.take (k + 1)).drop i = (l.take k).drop i ++ [l[k]] := by
    rw [List.take_succ_eq_append_getElem hk, List.drop_append_of_le_length (by rw [List.length_take]; omega)]
  unfold laterK
  rw [e, List.any_append]
  simp
theorem ok_nn {kind : Int} {key : List Int} (h : newOk kind key = true) : ∀ k ∈ key, 0 ≤ k := fun k hk => by
  rw [newOk_iff, Bool.and_eq_true] at h
  have h2 : (key.any fun k => decide (k < 0)) = false := by simpa using h.2
  have := List.any_eq_false.1 h2 k hk
  have := of_decide_eq_false (by simpa using this : decide (k < 0) = false)
  omega
theorem made_fit {kind : Int} {key bats : List Int} {lines : List LineD} (hk : newOk kind key = true) (h : MadeK kind key bats lines) : ∀ x ∈ lines, FitK key x.row := by
  induction h with
  | nil => intro x hx; cases hx
  | take h hz ih =>
    intro x hx
    rcases List.mem_append.1 hx with hx | hx
    · exact ih x hx
    · have h1 := (look_ok (by rw [hz]; simp)).2.2.1 x hx
      have h2 := (bad_right h1).2.2.2
      intro k hkk
      refine ⟨ok_nn hk k hkk, ?_⟩
      have h3 := List.any_eq_false.1 h2 k hkk
      have := of_decide_eq_false (by simpa using h3 : decide ((x.row.length : Int) ≤ k) = false)
      omega
theorem net_fit {st : SkD} (h : SkR st) : ∀ d ∈ netP st.lines, FitK st.key d.row := fun d hd => consP_row (P := FitK st.key) (l := st.lines.map LineD.d) (fun x hx => by
  obtain ⟨y, hy, rfl⟩ := List.mem_map.1 hx
  exact made_fit h.ok h.made y hy) d hd
section
variable {Φ : PW} {q : KP} {st : SkD} {W w : World} {R S G : List Own} {p r : Option Addr} {cap cap2 : Nat} {L : List LineD} {cs : List Value}
set_option maxHeartbeats 1000000 in
theorem same43_q [Stable Φ] [hF : Has Φ (RkF q st)] (hkl : st.key.length ≤ 10000000) {a b : List ValD} [hA : Has Φ (fun M w => Sl M w p a)] [hB : Has Φ (fun M w => Sl M w r b)] (fa : FitK st.key a) (fb : FitK st.key b) :
    GivesQ (RkO q st) Φ Tryz.prog F.errataref43_Sink_same #[snk q, .slice p a.length cap, .slice r b.length cap2] (.bool (sameK st.key a b)) := by
  suffices hgo : There q.kp st.key.length → There p a.length → There r b.length → GivesQ (RkO q st) Φ Tryz.prog F.errataref43_Sink_same #[snk q, .slice p a.length cap, .slice r b.length cap2] (.bool (sameK st.key a b)) from
    ⟨fun W w S c => (hgo (hF.go _ _ c.phi).2.1.there (hA.go _ _ c.phi).there (hB.go _ _ c.phi).there).go W w S c⟩
  intro htk hta htb
  refine gives_q (Berrataref43_Sink_same_run q.sb 0 p a.length cap r b.length cap2) fun W R => ?_
  have hcell : ∀ {w : World} {G : List Own} {Ψ : PW}, Ctx W w ((RkO q st ++ R) ++ G) Ψ → w.cell? ⟨q.sb, 0 + 1, none⟩ = some (.slice q.kp st.key.length q.kc) := fun {w G Ψ} cx => rk_cell (i := 1) cx rfl
  obtain ⟨key, hkey⟩ : ∃ key, st.key = key := ⟨_, rfl⟩
  have hK : ∀ M w, Φ M w → Sl M w q.kp key := fun M w h => by rw [← hkey]; exact (hF.go M w h).2.1
  rw [hkey] at hcell htk hkl fa fb ⊢
  refine exI_mk (fun n R' Φ' k => ∃ i : Nat, n = i ∧ i ≤ key.length ∧ R' = RkO q st ++ R ∧ Φ' = Φ ∧ k = key.length - i ∧ sameK key a b = decide (keyR (key.drop i) a = keyR (key.drop i) b)) ⟨⟨_, Φ, _, inferInstance, fun w F c => c, 0, rfl, Nat.zero_le _, rfl, rfl, rfl, rfl⟩, ?_⟩
  rintro n R1 Φ1 k _ ⟨i, rfl, hi, rfl, rfl, rfl, hs⟩
  refine fun w G cx => ⟨q.kp, key.length, q.kc, hcell cx, ?_⟩
  clear cx
  refine Br.intro (fun hlt => ?_) (fun hge => fun w G cx => ⟨?_, cx.left⟩)
  · have hlt : i < key.length := by have := of_decide_eq_true hlt; omega
    obtain ⟨gk, ok, hkp⟩ := htk (by omega)
    obtain ⟨fa1, fa2⟩ := fa _ (List.getElem_mem hlt)
    obtain ⟨fb1, fb2⟩ := fb _ (List.getElem_mem hlt)
    obtain ⟨ga, oa, hap⟩ := hta (by omega)
    obtain ⟨gb, ob, hbp⟩ := htb (by omega)
    rw [keyR_take_succ hlt] at hs
    obtain ⟨j, hj⟩ : ∃ j : Nat, key[i] = (j : Int) := ⟨key[i].toNat, by omega⟩
    have hja : j < a.length := by omega
    have hjb : j < b.length := by omega
    have ea : a.getD key[i].toNat v00 = a[j] := by rw [hj, Int.toNat_natCast, List.getD_eq_getElem?_getD, List.getElem?_eq_getElem hja]; rfl
    have eb : b.getD key[i].toNat v00 = b[j] := by rw [hj, Int.toNat_natCast, List.getD_eq_getElem?_getD, List.getElem?_eq_getElem hjb]; rfl
    rw [ea, eb, ← val_dec] at hs
    have rdk : ∀ {w : World} {G : List Own}, Ctx W w ((RkO q st ++ R) ++ G) Φ1 → w.cell? ⟨gk, ok + i, none⟩ = some (.int .i64 key[i]) := fun {w G} cx => sl_int (by rw [← hkp]; exact hK _ _ cx.phi) hlt
    refine fun w G cx => ⟨q.kp, key.length, q.kc, hcell cx, by omega, ptrK_intro gk ok hkp ⟨key[i], by rw [Int.toNat_natCast]; exact rdk cx, by omega, ptrK_intro ga oa hap ⟨a[j].kind, a[j].num, a[j].text, by rw [hj, Int.toNat_natCast]; exact sl_val (by rw [← hap]; exact hA.go _ _ cx.phi) hja, q.kp, key.length, q.kc, hcell cx, by omega, ptrK_intro gk ok hkp ⟨key[i], by rw [Int.toNat_natCast]; exact rdk cx, by omega, ptrK_intro gb ob hbp ⟨b[j].kind, b[j].num, b[j].text, by rw [hj, Int.toNat_natCast]; exact sl_val (by rw [← hbp]; exact hB.go _ _ cx.phi) hjb, by kernel_rfl, ?_⟩⟩⟩⟩⟩
    clear cx
    refine Br.intro (fun h => fun w G cx => ⟨?_, cx.left⟩) (fun h => ⟨by unfold I64; omega, _, Φ1, key.length - (i + 1), inferInstance, fun w G cx => cx, ⟨i + 1, rfl, hlt, rfl, rfl, rfl, ?_⟩, by omega⟩)
    · have h : (decide (a[j].kind = b[j].kind) && (decide (a[j].num = b[j].num) && (decide (a[j].text = b[j].text) && true))) = false := by rw [Bool.not_eq_true'] at h; exact h
      rw [hs, h, Bool.false_and]
    · have h : (decide (a[j].kind = b[j].kind) && (decide (a[j].num = b[j].num) && (decide (a[j].text = b[j].text) && true))) = true := by rw [Bool.not_eq_false'] at h; exact h
      rw [hs, h, Bool.true_and]
  · have hge : i = key.length := by have := of_decide_eq_false hge; omega
    rw [hs, hge, List.drop_length]; rfl
set_option maxHeartbeats 4000000 in
theorem Cells43_q [Stable Φ] [hF : Has Φ (RkF q st)] (hq : RkQ q st) (hI : SkI st) (hll : st.lines.length ≤ 400000) (hkl : st.key.length ≤ 10000000) (hfit : ∀ d ∈ netP st.lines, FitK st.key d.row) : GivesQSl (RkO q st) Φ Tryz.prog F.errataref43_Sink_Cells #[snk q] (skCells st) := by
  refine gives_qsl (Berrataref43_Sink_Cells_run q.sb 0) fun W R => ?_
  refine fun w G cx => ((Net43_q hq hI hll).go W w (R ++ G) cx.inl).mono fun e w' ⟨p0, c0, he, g1, g2, cx⟩ => ?_
  have hnl := net_len st.lines
  have hrow := net_row hI
  obtain ⟨l, hl⟩ : ∃ l, netP st.lines = l := ⟨_, rfl⟩
  have hsk : skCells st = if st.kind = 1 then cellsK st.key l else [] := by unfold skCells; rw [hl]
  rw [hl] at hnl hrow hfit g1 he cx
  rw [hsk]
  clear hsk
  obtain ⟨gD, oD, cD, hpD, cx⟩ := cx.pin cx.phi.2
  obtain ⟨QS, hQS⟩ : ∃ QS : PW, QS = (fun M w => (Φ M w ∧ Sl M w p0 l) ∧ Pin gD oD cD l M w) := ⟨_, rfl⟩
  have stQ : Stable QS := by rw [hQS]; infer_instance
  have iQ : ∀ M w, QS M w → Φ M w := fun M w h => by rw [hQS] at h; exact h.1.1
  have iP : ∀ M w, QS M w → Pin gD oD cD l M w := fun M w h => by rw [hQS] at h; exact h.2
  rw [← hQS] at cx
  clear hQS
  have hcs := Ctx.cells cx iP
  refine ⟨p0, _, c0, he, RkO q st ++ R, QS, stQ, cx.outl, ?_⟩
  clear cx he
  obtain ⟨key, hkey⟩ : ∃ key, st.key = key := ⟨_, rfl⟩
  obtain ⟨out, hout⟩ : ∃ out : Nat → List DeltaD, out = fun i => if st.kind = 1 then preK key i l else [] := ⟨_, rfl⟩
  have hol : ∀ i, (out i).length ≤ 400000 := fun i => by
    rw [hout]
    simp only
    split
    · have := preK_len key l i; omega
    · exact Nat.zero_le _
  have ho0 : out 0 = [] := by rw [hout]; simp only; split <;> cases l <;> rfl
  rw [hkey] at hfit ⊢
  have hcell : ∀ {w : World} {G : List Own} {Ψ : PW} [Stable Ψ] {o : Own}, Ctx W w ((o :: (RkO q st ++ R)) ++ G) Ψ → w.cell? ⟨q.sb, 0, none⟩ = some (.int .i64 st.kind) := fun {w G Ψ} _ {o} cx => rk_cell (i := 0) (Ctx.drop1 cx) rfl
  refine exI_mk (fun op on oc iI R' Φ' k => ∃ (i : Nat) (ds : List Value), iI = i ∧ i ≤ l.length ∧ on = (out i).length ∧ R' = .buf op (out i).length oc ds 71 3 :: (RkO q st ++ R) ∧ Φ' = (fun M w => QS M w ∧ Elems M w ds (out i)) ∧ k = l.length - i)
    ⟨⟨.buf none 0 0 [] 71 3 :: (RkO q st ++ R), fun M w => QS M w ∧ Elems M w [] ([] : List DeltaD), _, inferInstance, fun w G cx => (cx.weak fun M w h => ⟨h, Elems.nil⟩).nobuf 71 3, 0, [], rfl, Nat.zero_le _, by rw [ho0]; rfl, by rw [ho0]; rfl, by rw [ho0], rfl⟩, ?_⟩
  rintro op _ oc iI R1 Φ1 k _ ⟨i, ds, rfl, hi, rfl, rfl, rfl, rfl⟩
  have hoi := hol i
  refine fun w G cx => ⟨st.kind, fun _ => hcell cx, ?_⟩
  clear cx
  refine Br.intro (fun hc => ?_) (fun hc => fun w G cx => ?_)
  rotate_left
  · have hfin : out i = if st.kind = 1 then cellsK key l else [] := by
      rw [hout]
      simp only
      by_cases hk : st.kind = 1
      · rw [if_pos hk, if_pos hk]
        rw [decide_eq_true hk, Bool.and_true] at hc
        have : i = l.length := by have := of_decide_eq_false hc; omega
        rw [this, preK_all]
      · rw [if_neg hk, if_neg hk]
    rw [← hfin]
    obtain ⟨cx2, hs, _, h2, h3⟩ := Ctx.freeze (α := DeltaD) cx.left cx.left.phi.2
    exact ⟨op, oc, rfl, h2, h3, (cx2.add hs).weak fun M w h => ⟨iQ M w h.1.1, h.2⟩⟩
  obtain ⟨hlt, hk1⟩ : i < l.length ∧ st.kind = 1 := by
    rw [Bool.and_eq_true] at hc
    exact ⟨by have := of_decide_eq_true hc.1; omega, of_decide_eq_true hc.2⟩
  clear hc
  have hstep : out (i + 1) = out i ++ (if liveK key l[i] (l.drop (i + 1)) = true then [l[i]] else []) := by
    rw [hout]
    simp only [if_pos hk1]
    exact preK_step key l i hlt
  have hfi := hfit _ (List.getElem_mem hlt)
  have hri := hrow _ (List.getElem_mem hlt)
  obtain ⟨q1, qc1, e1, f1, f2, f3, f4⟩ := hcs i hlt
  have rdi : ∀ {w : World} {S : List Own}, Ctx W w S (fun M w => QS M w ∧ Elems M w ds (out i)) → RowAt w gD (oD + i * 3) (l[i].cells q1 qc1) := fun {w S} cx => pin_rowAt (iP _ _ cx.phi.1) hlt e1
  have sli : ∀ M w, QS M w → Sl M w q1 l[i].row := fun M w h => pin_row (iP M w h) hlt e1
  obtain ⟨X, hX⟩ : ∃ X, l[i] = X := ⟨_, rfl⟩
  rw [hX] at hstep hfi hri f1 f3 f4 rdi sli
  refine ⟨by omega, ptrK_intro gD oD (hpD (by omega)) fun w G cx => ⟨X.n, by rw [Int.toNat_natCast]; exact rdi cx 2 (by show 2 < 3; decide), by unfold I64; omega, ?_⟩⟩
  clear cx
  refine exI_mk (fun c n R' Φ' k => ∃ j : Nat, n = j ∧ i + 1 ≤ j ∧ j ≤ l.length ∧ c = (decide (0 < X.n) && !laterK key X ((l.take j).drop (i + 1))) ∧ R' = .buf op (out i).length oc ds 71 3 :: (RkO q st ++ R) ∧ Φ' = (fun M w => QS M w ∧ Elems M w ds (out i)) ∧ k = l.length - j)
    ⟨⟨_, _, _, inferInstance, fun w G cx => cx, i + 1, by omega, Nat.le_refl _, hlt, ?_, rfl, rfl, rfl⟩, ?_⟩
  · rw [List.drop_of_length_le (by rw [List.length_take]; omega)]
    show _ = (decide (0 < X.n) && !false)
    simp
  rintro c n R2 Φ2 k2 _ ⟨j, rfl, hij, hj, hcv, rfl, rfl, rfl⟩
  refine Br.intro (fun hlt2 => ?_) (fun hge2 => ?_)
  · have hlt2 : j < l.length := by have := of_decide_eq_true hlt2; omega
    have hls := later_step (key := key) (d := X) hij hlt2
    have hfj := hfit _ (List.getElem_mem hlt2)
    have hrj := hrow _ (List.getElem_mem hlt2)
    obtain ⟨q2, qc2, e2, m1, m2, m3, m4⟩ := hcs j hlt2
    have rdj : ∀ {w : World} {S : List Own}, Ctx W w S (fun M w => QS M w ∧ Elems M w ds (out i)) → RowAt w gD (oD + j * 3) (l[j].cells q2 qc2) := fun {w S} cx => pin_rowAt (iP _ _ cx.phi.1) hlt2 e2
    have slj : ∀ M w, QS M w → Sl M w q2 l[j].row := fun M w h => pin_row (iP M w h) hlt2 e2
    obtain ⟨Y, hY⟩ : ∃ Y, l[j] = Y := ⟨_, rfl⟩
    rw [hY] at hls hfj hrj m1 m3 m4 rdj slj
    have next : ∀ c' : Bool, c' = (decide (0 < X.n) && !laterK key X ((l.take (j + 1)).drop (i + 1))) → I64 ((j : Int) + 1) ∧ ∃ R' Φ' k', Stable Φ' ∧ (∀ (w : World) (G : List Own), Ctx W w ((.buf op (out i).length oc ds 71 3 :: (RkO q st ++ R)) ++ G) (fun M w => QS M w ∧ Elems M w ds (out i)) → Ctx W w (R' ++ G) Φ') ∧ (∃ j' : Nat, (j : Int) + 1 = j' ∧ i + 1 ≤ j' ∧ j' ≤ l.length ∧ c' = (decide (0 < X.n) && !laterK key X ((l.take j').drop (i + 1))) ∧ R' = .buf op (out i).length oc ds 71 3 :: (RkO q st ++ R) ∧ Φ' = (fun M w => QS M w ∧ Elems M w ds (out i)) ∧ k' = l.length - j') ∧ k' < l.length - j := fun c' hc' =>
      ⟨by unfold I64; omega, _, _, l.length - (j + 1), inferInstance, fun w G cx => cx, ⟨j + 1, by omega, by omega, hlt2, hc', rfl, rfl, rfl⟩, by omega⟩
    refine ⟨_, _, inferInstance, fun w G cx => cx, Br.intro (fun hct => ?_) (fun hcf => next _ ?_)⟩
    · rw [hct] at hcv
      rw [hls, Bool.not_or, ← Bool.and_assoc, ← hcv, Bool.true_and] at next
      refine ⟨by omega, ptrK_intro gD oD (hpD (by omega)) ⟨Y.n, fun w G cx => ⟨_, by rw [Int.toNat_natCast]; exact rdj cx 2 (by show 2 < 3; decide), rfl⟩, Br.intro (fun hn => next _ (by rw [hn]; rfl)) (fun hn => ⟨by omega, ptrK_intro gD oD (hpD (by omega)) ⟨by omega, ptrK_intro gD oD (hpD (by omega)) ⟨q1, X.row.length, qc1, fun w G cx => ⟨_, _, _, by rw [Int.toNat_natCast]; exact rdi cx 1 (by show 1 < 3; decide), rfl⟩, q2, Y.row.length, qc2, fun w G cx => ⟨_, _, _, by rw [Int.toNat_natCast]; exact rdj cx 1 (by show 1 < 3; decide), rfl⟩, fun w G cx => ?_⟩⟩⟩)⟩⟩
      have hs := same43_q (Φ := fun M w => QS M w ∧ Elems M w ds (out i)) (st := st) (q := q) (hF := ⟨fun M w h => hF.go M w (iQ M w h.1)⟩) (p := q1) (r := q2) (cap := qc1) (cap2 := qc2) (a := X.row) (b := Y.row) (hA := ⟨fun M w h => sli M w h.1⟩) (hB := ⟨fun M w h => slj M w h.1⟩) hkl (by rw [hkey]; exact hfi) (by rw [hkey]; exact hfj)
      rw [hkey] at hs
      refine hs.toB (R := .buf op (out i).length oc ds 71 3 :: R) (Ctx.mid cx) ?_
      clear cx hs
      obtain ⟨n1, R', Φ', k', n2, n3, n4, n5⟩ := next (!sameK key X.row Y.row) (by rw [hn]; simp)
      exact ⟨n1, R', Φ', k', n2, fun w G cx => n3 w G (Ctx.front cx), n4, n5⟩
    · rw [hls, Bool.not_or, ← Bool.and_assoc, ← hcv, hcf, Bool.false_and]
  · have hge2 : j = l.length := by have := of_decide_eq_false hge2; omega
    rw [hge2, List.take_length] at hcv
    have hcv : c = liveK key X (l.drop (i + 1)) := hcv
    rw [← hcv] at hstep
    refine Br.intro (fun hct => ⟨by omega, ptrK_intro gD oD (hpD (by omega)) fun w G cx => ⟨X.time, q1, X.row.length, qc1, X.n, by rw [Int.toNat_natCast]; exact rdi cx, fun kb w G cx => ?_⟩⟩) (fun hcf => ?_)
    · rw [if_pos hct] at hstep
      obtain ⟨p', c', w', hrun, cx'⟩ := push1 (x := X) (PS := QS) (fun M w h => rep_delta f1 f2 f3 f4 (sli M w h)) (by omega) cx
      rw [← hstep] at hrun cx'
      have st3 : Stable (fun M w => QS M w ∧ Elems M w (ds ++ X.cells q1 qc1) (out (i + 1))) := inferInstance
      exact ⟨p', _, c', w', hrun, _, _, st3, cx', by unfold I64; omega, _, _, l.length - (i + 1), st3, fun w G cx => cx, ⟨i + 1, _, by omega, hlt, rfl, rfl, rfl, rfl⟩, by omega⟩
    · rw [if_neg (by rw [hcf]; simp), List.append_nil] at hstep
      exact ⟨by unfold I64; omega, _, _, l.length - (i + 1), inferInstance, fun w G cx => cx, ⟨i + 1, ds, by omega, hlt, by rw [hstep], by rw [hstep], by rw [hstep], rfl⟩, by omega⟩
end
end Go.Proofs.YtemhapmbcbbljaaGreatDoor
end

section
namespace Go.Vc
variable {κ ν : Type} [DecidableEq κ] {kv : κ → Value} {vv : ν → Value} {z : ν}
structure GEnt (κ ν : Type) where
  key : κ
  val : ν
  born : Nat
def GEnt.m (kv : κ → Value) (vv : ν → Value) (e : GEnt κ ν) : MapEntry := ⟨kv e.key, vv e.val, e.born⟩
def gObj (kv : κ → Value) (vv : ν → Value) (es : List (GEnt κ ν)) (clock : Nat) : Obj := .map (es.map (GEnt.m kv vv)).toArray clock
def getG (z : ν) : List (GEnt κ ν) → κ → ν
  | [], _ => z
  | e :: es, k => if k = e.key then e.val else getG z es k
def findG (vv : ν → Value) : List (GEnt κ ν) → κ → Nat → Option (Nat × Value)
  | [], _, _ => none
  | e :: es, k, i => if k = e.key then some (i, vv e.val) else findG vv es k (i + 1)
structure GOk (es : List (GEnt κ ν)) (clock : Nat) : Prop where
  keys : es.Pairwise fun a b => a.key ≠ b.key
  borns : es.Pairwise fun a b => a.born ≠ b.born
  lt : ∀ e ∈ es, e.born < clock
structure GTy (P : Program) (t k e : TypeId) (kv : κ → Value) (vv : ν → Value) (z : ν) : Prop where
  map : P.underlying t = some (.map k e)
  find : ∀ (x : κ) (es : List (GEnt κ ν)) w, (Instr.findKey k (kv x) (es.map (GEnt.m kv vv))).run P w = .ok (findG vv es x 0) w
  chk : ∀ b x w, (Instr.checkKey b 10000 k (kv x)).run P w = .ok () w
  stays : ∀ x w, (Instr.keyThatStays (kv x) (kv x)).run P w = .ok (kv x) w
  zero : ∀ w, (zeroValue e).run P w = .ok (vv z) w
theorem findG_none : ∀ {es : List (GEnt κ ν)} {k : κ} {i : Nat}, findG vv es k i = none → ∀ e ∈ es, e.key ≠ k
  | [], _, _, _, e, he => by cases he
  | x :: es, k, i, h, e, he => by
    unfold findG at h
    split at h
    · cases h
    · rename_i hk
      rcases List.mem_cons.1 he with rfl | he
      · exact fun e => hk e.symm
      · exact findG_none h e he
theorem getG_none : ∀ {es : List (GEnt κ ν)} {k : κ}, (∀ e ∈ es, e.key ≠ k) → getG z es k = z
  | [], _, _ => rfl
  | x :: es, k, h => by
    unfold getG
    rw [if_neg fun e => h x (by simp) e.symm]
    exact getG_none fun e he => h e (by simp [he])
theorem findG_some : ∀ {es : List (GEnt κ ν)} {k : κ} {i j : Nat} {v : Value}, findG vv es k i = some (j, v) → ∃ n e, j = i + n ∧ es[n]? = some e ∧ e.key = k ∧ v = vv e.val ∧ getG z es k = e.val
  | [], _, _, _, _, h => by cases h
  | x :: es, k, i, j, v, h => by
    unfold findG at h
    split at h
    · rename_i hk
      cases h
      exact ⟨0, x, rfl, rfl, hk.symm, rfl, by unfold getG; rw [if_pos hk]⟩
    · rename_i hk
      obtain ⟨n, e, h1, h2, h3, h4, h5⟩ := findG_some h
      exact ⟨n + 1, e, by omega, by simpa using h2, h3, h4, by unfold getG; rw [if_neg hk]; exact h5⟩
section
variable {P : Program} {t k e : TypeId} (T : GTy P t k e kv vv z)
include T
theorem run_lookupG {w : World} {b : Nat} {es : List (GEnt κ ν)} {clock : Nat} (hb : w.heap[b]? = some (gObj kv vv es clock)) (x : κ) :
    Sem.run P (Instr.lookup t (.map (some b)) (kv x) false) w = .ok (vv (getG z es x)) w := by
  have h1 := T.find x es w
  unfold gObj at hb
  unfold Instr.lookup
  simp only [Sem.run_bind, run_underlying T.map, MapKept.run_getObj_map hb, Result.andThen, T.chk, Sem.run_pure, h1]
  cases hf : findG vv es x 0 with
  | none => simp only [Sem.run_bind, T.zero, Result.andThen, Sem.run_pure, getG_none (findG_none hf)]; rfl
  | some r =>
    obtain ⟨j, v⟩ := r
    obtain ⟨n, e', _, _, _, hv, hg⟩ := findG_some (z := z) hf
    simp only [Sem.run_pure, Result.andThen]
    rw [hg, hv]; rfl
end
section
variable {P : Program} {t k e : TypeId} (T : GTy P t k e kv vv z)
omit [DecidableEq κ] in
theorem setG_keys (n : Nat) (v : ν) : ∀ (es : List (GEnt κ ν)), (es.modify n fun a => { a with val := v }).map GEnt.key = es.map GEnt.key := fun es => by
  apply List.ext_getElem?
  intro i
  rw [List.getElem?_map, List.getElem?_map, List.getElem?_modify]
  cases es[i]? with
  | none => rfl
  | some a => by_cases h : n = i <;> simp [h]
omit [DecidableEq κ] in
theorem setG_borns (n : Nat) (v : ν) : ∀ (es : List (GEnt κ ν)), (es.modify n fun a => { a with val := v }).map GEnt.born = es.map GEnt.born := fun es => by
  apply List.ext_getElem?
  intro i
  rw [List.getElem?_map, List.getElem?_map, List.getElem?_modify]
  cases es[i]? with
  | none => rfl
  | some a => by_cases h : n = i <;> simp [h]
theorem getG_snoc {x : κ} {v : ν} {b : Nat} : ∀ {es : List (GEnt κ ν)}, (∀ a ∈ es, a.key ≠ x) → ∀ y, getG z (es ++ [⟨x, v, b⟩]) y = if y = x then v else getG z es y
  | [], _, y => by simp [getG]
  | a :: es, h, y => by
    have ih := getG_snoc (v := v) (b := b) (es := es) (fun a ha => h a (by simp [ha])) y
    rw [List.cons_append]
    unfold getG
    by_cases h1 : y = a.key
    · rw [if_pos h1, if_pos h1, if_neg fun e => h a (by simp) (h1.symm.trans e)]
    · rw [if_neg h1, if_neg h1, ih]
theorem getG_set {x : κ} {v : ν} : ∀ {es : List (GEnt κ ν)} {n : Nat} {a : GEnt κ ν}, es.Pairwise (fun a b => a.key ≠ b.key) → es[n]? = some a → a.key = x → ∀ y, getG z (es.modify n fun a => { a with val := v }) y = if y = x then v else getG z es y
  | [], _, _, _, h, _, _ => by simp at h
  | c :: es, 0, a, hp, h, hk, y => by
    have : c = a := by simpa using h
    subst this
    rw [List.modify_zero_cons]
    unfold getG
    by_cases hy : y = x
    · rw [if_pos (hy.trans hk.symm), if_pos hy]
    · rw [if_neg fun e => hy (e.trans hk), if_neg hy]
      cases es <;> simp [getG, hk, hy]
  | c :: es, n + 1, a, hp, h, hk, y => by
    obtain ⟨h1, h2⟩ := List.pairwise_cons.1 hp
    have h' : es[n]? = some a := by simpa using h
    have ih := getG_set (v := v) h2 h' hk y
    rw [List.modify_succ_cons]
    unfold getG
    by_cases hy : y = c.key
    · rw [if_pos hy, if_pos hy, if_neg]
      intro e
      exact h1 a (List.mem_of_getElem? h') (hy.symm.trans (e.trans hk.symm))
    · rw [if_neg hy, if_neg hy]
      exact ih
include T
theorem run_updateG {w : World} {b : Nat} {es : List (GEnt κ ν)} {clock : Nat} (ok : GOk es clock) (hb : w.heap[b]? = some (gObj kv vv es clock)) (x : κ) (v : ν) :
    ∃ es1 clock1, Sem.run P (Instr.mapUpdate t (.map (some b)) (kv x) (vv v)) w = .ok () (setB w b (gObj kv vv es1 clock1)) ∧ GOk es1 clock1 ∧ ∀ y, getG z es1 y = if y = x then v else getG z es y := by
  have h1 := T.find x es w
  unfold gObj at hb
  cases hf : findG vv es x 0 with
  | none =>
    have hn := findG_none hf
    refine ⟨es ++ [⟨x, v, clock⟩], clock + 1, ?_, ⟨?_, ?_, ?_⟩, getG_snoc hn⟩
    · have h3 := MapKept.run_setObj_map (P := P) (.map ((es.map (GEnt.m kv vv)).toArray.push ⟨kv x, vv v, clock⟩) (clock + 1)) hb
      unfold Instr.mapUpdate
      rw [hf] at h1
      simp only [Sem.run_bind, run_underlying T.map, MapKept.run_getObj_map hb, Result.andThen, T.chk, Sem.run_pure, h1, h3]
      unfold gObj
      simp [GEnt.m]
      rfl
    · exact List.pairwise_append.2 ⟨ok.keys, by simp, fun a ha c hc => by rw [List.mem_singleton.1 hc]; exact hn a ha⟩
    · exact List.pairwise_append.2 ⟨ok.borns, by simp, fun a ha c hc => by rw [List.mem_singleton.1 hc]; exact Nat.ne_of_lt (ok.lt a ha)⟩
    · intro a ha
      rcases List.mem_append.1 ha with ha | ha
      · have := ok.lt a ha; omega
      · rw [List.mem_singleton.1 ha]; exact Nat.lt_succ_self _
  | some r =>
    obtain ⟨j, u⟩ := r
    obtain ⟨n, a, hj, ha, hk, hv, hg⟩ := findG_some (z := z) hf
    have hj : j = n := by omega
    subst hj
    have ha2 : (es.map (GEnt.m kv vv)).toArray[j]? = some (GEnt.m kv vv a) := by simp [ha]
    have h3 := MapKept.run_setObj_map (P := P) (.map ((es.map (GEnt.m kv vv)).toArray.modify j fun e => { e with key := kv x, val := vv v }) clock) hb
    refine ⟨es.modify j fun a => { a with val := v }, clock, ?_, ⟨?_, ?_, ?_⟩, getG_set ok.keys ha hk⟩
    · unfold Instr.mapUpdate
      rw [hf] at h1
      simp only [Sem.run_bind, run_underlying T.map, MapKept.run_getObj_map hb, Result.andThen, T.chk, Sem.run_pure, h1, ha2, Option.map_some, Option.getD_some]
      rw [show (GEnt.m kv vv a).key = kv x by rw [← hk]; rfl, T.stays x w]
      simp only [h3]
      congr 2
      unfold gObj
      refine congrArg (fun a => w.heap.setIfInBounds b (Obj.map a clock)) ?_
      apply Array.ext'
      apply List.ext_getElem?
      intro i
      simp only [Array.toList_modify, List.getElem?_modify, List.getElem?_map]
      by_cases h : j = i
      · subst h
        rw [ha]
        simp [GEnt.m, hk]
      · simp [h]
    · have := List.pairwise_map.2 ok.keys
      exact List.pairwise_map.1 (by rw [setG_keys]; exact List.pairwise_map.2 ok.keys)
    · exact List.pairwise_map.1 (by rw [setG_borns]; exact List.pairwise_map.2 ok.borns)
    · intro c hc
      have hm : c.born ∈ (es.modify j fun a => { a with val := v }).map GEnt.born := List.mem_map.2 ⟨c, hc, rfl⟩
      rw [setG_borns] at hm
      obtain ⟨d, hd, he⟩ := List.mem_map.1 hm
      rw [← he]; exact ok.lt d hd
end
section
variable {P : Program} {t k e : TypeId}
theorem findNow_str (x : ByteArray) : ∀ (es : List (GEnt ByteArray ν)) (i : Nat), Instr.findNow .string (.string x) (es.map (GEnt.m Value.string vv)) i = some (findG vv es x i)
  | [], _ => rfl
  | a :: es, i => by
    rw [List.map_cons]
    unfold Instr.findNow
    have e1 : Instr.sameNow .string (.string x) (GEnt.m Value.string vv a).key = some (x == a.key) := rfl
    rw [e1]
    unfold findG
    by_cases h : x = a.key
    · rw [if_pos h, show (x == a.key) = true from (MapKept.bytes_beq _ _).2 h]; rfl
    · rw [if_neg h, show (x == a.key) = false from Bool.eq_false_iff.2 fun hb => h ((MapKept.bytes_beq _ _).1 hb)]
      exact findNow_str x es (i + 1)
theorem GTy.ofStr (hm : P.underlying t = some (.map k e)) (hk : P.underlying k = some .string) (hc : ∀ b (x : ByteArray) w, (Instr.checkKey b 10000 k (.string x)).run P w = .ok () w) (hz : ∀ w, (zeroValue e).run P w = .ok (vv z) w) : GTy P t k e Value.string vv z where
  map := hm
  chk := hc
  zero := hz
  stays x w := by
    have : Instr.sameBits 10000 (.string x) (.string x) = true := by
      unfold Instr.sameBits
      simp [Instr.sameBits, MapKept.bytes_beq]
    unfold Instr.keyThatStays
    rw [if_pos this]; rfl
  find x es w := by
    unfold Instr.findKey
    simp only [Sem.run_bind, run_underlying hk, Result.andThen, findNow_str]
    rfl
theorem findNow_int {kk : IntKind} (x : Int) : ∀ (es : List (GEnt Int ν)) (i : Nat), Instr.findNow (.int kk) (.int kk x) (es.map (GEnt.m (Value.int kk) vv)) i = some (findG vv es x i)
  | [], _ => rfl
  | a :: es, i => by
    rw [List.map_cons]
    unfold Instr.findNow
    have e1 : Instr.sameNow (.int kk) (.int kk x) (GEnt.m (Value.int kk) vv a).key = some (x == a.key) := by
      show (if kk = kk then some (x == a.key) else none) = _
      rw [if_pos rfl]
    rw [e1]
    unfold findG
    by_cases h : x = a.key
    · rw [if_pos h, show (x == a.key) = true by rw [h]; exact beq_self_eq_true _]; rfl
    · rw [if_neg h, show (x == a.key) = false from Bool.eq_false_iff.2 fun hb => h (by simpa using hb)]
      exact findNow_int x es (i + 1)
theorem GTy.ofInt {kk : IntKind} (hm : P.underlying t = some (.map k e)) (hk : P.underlying k = some (.int kk)) (hc : ∀ b (x : Int) w, (Instr.checkKey b 10000 k (.int kk x)).run P w = .ok () w) (hz : ∀ w, (zeroValue e).run P w = .ok (vv z) w) : GTy P t k e (Value.int kk) vv z where
  map := hm
  chk := hc
  zero := hz
  stays x w := by
    have : Instr.sameBits 10000 (.int kk x) (.int kk x) = true := by
      unfold Instr.sameBits
      simp [Instr.sameBits]
    unfold Instr.keyThatStays
    rw [if_pos this]; rfl
  find x es w := by
    unfold Instr.findKey
    simp only [Sem.run_bind, run_underlying hk, Result.andThen, findNow_int]
    rfl
end
end Go.Vc
end

section
namespace Go.Proofs.YtemhapmbcbbljaaGreatDoor
open Go Go.RowKit Go.Vc
attribute [local go_sem] Oper.semAt_some
abbrev dV (tm mn : Nat → Int) (pp : Nat → Option Addr) (ln cp : Nat → Nat) (j : Nat) : List Value := [.int .i64 (tm j), .slice (pp j) (ln j) (cp j), .int .i64 (mn j)]
set_option maxRecDepth 100000 in
set_option maxHeartbeats 2000000 in
theorem back_iter (kb g o n c : Nat) (hn : n ≤ c) (hc : c ≤ maxLen) (hn2 : n ≤ 1000000) (tm mn : Nat → Int) (pp : Nat → Option Addr) (ln cp : Nat → Nat) :
    Iter Tryz.prog F.slices_Backward_api_Delta_api_Delta_1 #[.pointer (some ⟨kb, 0, none⟩)] n (fun k => #[.int .i64 ((n : Int) - 1 - k), .agg #[.int .i64 (tm (n - 1 - k)), .slice (pp (n - 1 - k)) (ln (n - 1 - k)) (cp (n - 1 - k)), .int .i64 (mn (n - 1 - k))]]) (fun w => w.cell? ⟨kb, 0, none⟩ = some (.slice (some ⟨g, o, none⟩) n c) ∧ ∀ j, j < n → RowAt w g (o + j * 3) (dV tm mn pp ln cp j)) := by
  intro l J W hX hY h0
  refine callsIn_of_wp Tryz.func86 rfl trivial ?_ rfl
  simp only [Tryz.ntmps86, List.size_toArray, List.length_cons, List.length_nil, Nat.reduceAdd, Nat.reduceSub, Array.replicate_succ, Array.replicate_zero, List.push_toArray, List.append_toArray, List.nil_append, List.cons_append]
  have hcx0 := (hX _ _ h0).1
  gi_wp2
  gi_loopw [3] (fun i wr => ∃ k : Nat, k ≤ n ∧ i = .int .i64 ((n : Int) - 1 - k) ∧ J k wr)
    (fun i _ => (intOf i + 1).toNat)
  case atStart => exact ⟨0, Nat.zero_le _, by simp, h0⟩
  case round =>
    obtain ⟨k, hk, rfl, hJs⟩ := hrel
    have hcx := (hX _ _ hJs).1
    by_cases hlt : k < n
    · obtain ⟨fn, tmps, assign, body, hy, hR⟩ := hY _ _ hJs hlt
      have h8 : (0 : Int) ≤ (n : Int) - 1 - k := by omega
      have hrow := (hX _ _ hJs).2 (n - 1 - k) (by omega)
      have e0 : ((n : Int) - 1 - k).toNat = n - 1 - k := by omega
      have c0 : wr.cell? ⟨g, o + (n - 1 - k) * 3, none⟩ = some (.int .i64 (tm (n - 1 - k))) := hrow 0 (by show 0 < 3; decide)
      have c1 : wr.cell? ⟨g, o + (n - 1 - k) * 3 + 1, none⟩ = some (.slice (pp (n - 1 - k)) (ln (n - 1 - k)) (cp (n - 1 - k))) := hrow 1 (by show 1 < 3; decide)
      have c2 : wr.cell? ⟨g, o + (n - 1 - k) * 3 + 2, none⟩ = some (.int .i64 (mn (n - 1 - k))) := hrow 2 (by show 2 < 3; decide)
      gi_wp2
      refine ⟨rfl, hR.mono ?_⟩
      rintro e W3 ⟨rfl, hJ3⟩
      gi_wp2
      go_roundw
      case rel => exact ⟨k + 1, hlt, by simp; omega, hJ3⟩
      case measure => simp [intOf]; omega
    · have h8 : ¬ (0 : Int) ≤ (n : Int) - 1 - k := by omega
      obtain rfl : k = n := by omega
      gi_wp2
      go_end0
      exact ⟨⟨_, rfl⟩, hJs⟩
set_option maxRecDepth 100000 in
set_option maxHeartbeats 2000000 in
theorem back_iter0 (kb c : Nat) (p : Option Addr) (xs : Nat → Array Value) (X : World → Prop) (hX0 : ∀ w, X w → w.cell? ⟨kb, 0, none⟩ = some (.slice p 0 c)) :
    Iter Tryz.prog F.slices_Backward_api_Delta_api_Delta_1 #[.pointer (some ⟨kb, 0, none⟩)] 0 xs X := by
  intro l J W hX hY h0
  refine callsIn_of_wp Tryz.func86 rfl trivial ?_ rfl
  simp only [Tryz.ntmps86, List.size_toArray, List.length_cons, List.length_nil, Nat.reduceAdd, Nat.reduceSub, Array.replicate_succ, Array.replicate_zero, List.push_toArray, List.append_toArray, List.nil_append, List.cons_append]
  have hcx0 := hX0 _ (hX _ _ h0)
  gi_wp2
  gi_loopw [3] (fun i wr => i = .int .i64 (-1) ∧ J 0 wr) (fun _ _ => 0)
  case atStart => exact ⟨rfl, h0⟩
  case round =>
    obtain ⟨rfl, hJs⟩ := hrel
    have hcx := hX0 _ (hX _ _ hJs)
    gi_wp2
    go_end0
    exact ⟨⟨_, rfl⟩, hJs⟩
theorem back_iter' {kb g o n c : Nat} {p : Option Addr} (hp : 0 < n → p = some ⟨g, o, none⟩) (hn : n ≤ c) (hc : c ≤ maxLen) (hn2 : n ≤ 1000000) (tm mn : Nat → Int) (pp : Nat → Option Addr) (ln cp : Nat → Nat) :
    Iter Tryz.prog F.slices_Backward_api_Delta_api_Delta_1 #[.pointer (some ⟨kb, 0, none⟩)] n (fun k => #[.int .i64 ((n : Int) - 1 - k), .agg #[.int .i64 (tm (n - 1 - k)), .slice (pp (n - 1 - k)) (ln (n - 1 - k)) (cp (n - 1 - k)), .int .i64 (mn (n - 1 - k))]]) (fun w => w.cell? ⟨kb, 0, none⟩ = some (.slice p n c) ∧ ∀ j, j < n → RowAt w g (o + j * 3) (dV tm mn pp ln cp j)) := by
  rcases Nat.eq_zero_or_pos n with h | h
  · subst h
    exact back_iter0 kb c p _ _ fun w h => h.1
  · rw [hp h]
    exact back_iter kb g o n c hn hc hn2 tm mn pp ln cp
end Go.Proofs.YtemhapmbcbbljaaGreatDoor
end

section
namespace Go.Proofs.YtemhapmbcbbljaaGreatDoor
open Go.Vc
theorem swp_get {α : Type} {l : List α} {i j : Nat} (hi : i < l.length) (hj : j < l.length) (k : Nat) : (swp l i j)[k]? = if k = j then l[i]? else if k = i then l[j]? else l[k]? := by
  rw [swp_eq hi hj, List.getElem?_set, List.getElem?_set, List.length_set]
  by_cases h1 : k = j
  · have h1' : j = k := h1.symm
    rw [if_pos h1, if_pos h1', if_pos hj, List.getElem?_eq_getElem hi]
  · have h1' : ¬ j = k := fun e => h1 e.symm
    rw [if_neg h1, if_neg h1']
    by_cases h2 : k = i
    · have h2' : i = k := h2.symm
      rw [if_pos h2, if_pos h2', if_pos hi, List.getElem?_eq_getElem hj]
    · have h2' : ¬ i = k := fun e => h2 e.symm
      rw [if_neg h2, if_neg h2']
def revN {α : Type} (l : List α) : Nat → List α
  | 0 => l
  | i + 1 => swp (revN l i) i (l.length - 1 - i)
theorem revN_len {α : Type} (l : List α) : ∀ i, (revN l i).length = l.length
  | 0 => rfl
  | i + 1 => by unfold revN; rw [swp_len, revN_len]
theorem revN_get {α : Type} {l : List α} : ∀ (i : Nat), 2 * i ≤ l.length → ∀ k, k < l.length → (revN l i)[k]? = if k < i ∨ l.length - 1 - k < i then l[l.length - 1 - k]? else l[k]?
  | 0, _, k, hk => by rw [if_neg (by omega)]; rfl
  | i + 1, h, k, hk => by
    have ih := revN_get (l := l) i (by omega)
    have hl := revN_len l i
    have e1 : (revN l i)[i]? = l[i]? := by rw [ih i (by omega), if_neg (by omega)]
    have e2 : (revN l i)[l.length - 1 - i]? = l[l.length - 1 - i]? := by rw [ih (l.length - 1 - i) (by omega), if_neg (by omega)]
    unfold revN
    rw [swp_get (by omega) (by omega), e1, e2, ih k hk]
    by_cases h1 : k = l.length - 1 - i
    · rw [if_pos h1, if_pos (by omega), show l.length - 1 - k = i by omega]
    · rw [if_neg h1]
      by_cases h2 : k = i
      · rw [if_pos h2, if_pos (by omega), h2]
      · rw [if_neg h2]
        by_cases h3 : k < i ∨ l.length - 1 - k < i
        · rw [if_pos h3, if_pos (by omega)]
        · rw [if_neg h3, if_neg (by omega)]
theorem revN_end {α : Type} {l : List α} {i : Nat} (h1 : 2 * i ≤ l.length) (h2 : l.length ≤ 2 * i + 1) : revN l i = l.reverse := by
  apply List.ext_getElem?
  intro k
  by_cases hk : k < l.length
  · rw [revN_get i h1 k hk, List.getElem?_reverse hk]
    split
    · rfl
    · rw [show l.length - 1 - k = k by omega]
  · rw [List.getElem?_eq_none (by rw [revN_len]; omega), List.getElem?_eq_none (by rw [List.length_reverse]; omega)]
set_option maxHeartbeats 1000000 in
theorem Reverse_use {W w : World} {S : List Own} {Φ : PW} [Stable Φ] {p : Option Addr} {cap N : Nat} (es : List DE) (cx : Ctx W w (bufE p cap es :: S) Φ) (hN : N = es.length) (hlen : es.length ≤ 100000000) {K : Ending → World → Prop}
    (hK : ∀ w', Ctx W w' (bufE p cap es.reverse :: S) Φ → K (.returned (.tuple #[])) w') : Calls Tryz.prog F.slices_Reverse_api_Delta_api_Delta #[.slice p N cap] w K := by
  subst hN
  refine (Bslices_Reverse_api_Delta_api_Delta_run p es.length cap (J := fun u w' => K (.returned u) w') cx ?_).mono fun e w' ⟨v, he, hj⟩ => by rw [he]; exact hj
  have hp : 0 < es.length → ∃ g, p = some ⟨g, 0, none⟩ := fun h => e_ptr cx h
  clear cx
  refine ⟨by unfold I64; omega, ?_⟩
  refine exI_mk (fun a b R' Φ' k => ∃ i : Nat, a = i ∧ b = (es.length : Int) - 1 - i ∧ 2 * i ≤ es.length ∧ R' = bufE p cap (revN es i) :: S ∧ Φ' = Φ ∧ k = es.length - i) ⟨⟨_, Φ, _, inferInstance, fun w G cx => cx, 0, rfl, by omega, by omega, rfl, rfl, rfl⟩, ?_⟩
  rintro _ _ R1 Φ1 k _ ⟨i, rfl, rfl, hi, rfl, rfl, rfl⟩
  refine Br.intro (fun hlt => ?_) (fun hge => fun w G cx => ?_)
  · have hlt := of_decide_eq_true hlt
    have hl := revN_len es i
    obtain ⟨g, rfl⟩ := hp (by omega)
    have hnext : swp (revN es i) i (es.length - 1 - i) = revN es (i + 1) := rfl
    obtain ⟨E, hE⟩ : ∃ E, revN es i = E := ⟨_, rfl⟩
    rw [hE] at hl hnext ⊢
    obtain ⟨X, hX⟩ : ∃ X, E[i]? = some X := ⟨_, List.getElem?_eq_getElem (by omega)⟩
    obtain ⟨Y, hY⟩ : ∃ Y, E[es.length - 1 - i]? = some Y := ⟨_, List.getElem?_eq_getElem (by omega)⟩
    have na : ((i : Nat) : Int).toNat = i := Int.toNat_natCast _
    have nb : ((es.length : Int) - 1 - i).toNat = es.length - 1 - i := by omega
    refine ⟨[], fun _ _ => True, inferInstance, fun w G cx => (cx.weak fun _ _ _ => trivial).right, by omega, ptrK_intro g 0 rfl ⟨by omega, ptrK_intro g 0 rfl fun w G cx => ⟨Y.d.time, Y.p, Y.d.row.length, Y.c, Y.d.n, by rw [Nat.zero_add, nb]; exact e_row cx hY, fun w G cx => ⟨X.d.time, X.p, X.d.row.length, X.c, X.d.n, by rw [Nat.zero_add, na]; exact e_row cx hX, by omega, ptrK_intro g 0 rfl fun w G cx => ⟨by rw [Nat.zero_add, na]; exact e_can cx (by omega), fun w' hw' => ?_⟩⟩⟩⟩⟩
    rw [Nat.zero_add, na] at hw'
    refine ⟨bufE (some ⟨g, 0, none⟩) cap (E.set i Y) :: S, Φ1, inferInstance, e_swap hX hY cx hw', fun w G cx => (cx.weak fun _ _ _ => trivial).right, by omega, ptrK_intro g 0 rfl fun w G cx => ⟨by rw [Nat.zero_add, nb]; exact e_can cx (by rw [List.length_set]; omega), fun w' hw' => ?_⟩⟩
    rw [Nat.zero_add, nb] at hw'
    have cx2 := e_swap2 hX hY cx hw'
    rw [hnext] at cx2
    exact ⟨bufE (some ⟨g, 0, none⟩) cap (revN es (i + 1)) :: S, Φ1, inferInstance, cx2, fun w G cx => (cx.weak fun _ _ _ => trivial).right, by unfold I64; omega, by unfold I64; omega, _, Φ1, es.length - (i + 1), inferInstance, fun w G cx => cx, ⟨i + 1, by omega, by omega, by omega, rfl, rfl, rfl⟩, by omega⟩
  · have hge := of_decide_eq_false hge
    rw [revN_end hi (by omega)] at cx
    exact hK w cx.left
theorem seenTy : GTy Tryz.prog 73 9 4 Value.string Value.bool false := .ofStr (by kernel_rfl) (by kernel_rfl) (fun b x w => by kernel_rfl) (fun w => by kernel_rfl)
theorem rowB_inj {a b : List ValD} (ha : ∀ v ∈ a, FitV v) (hb : ∀ v ∈ b, FitV v) (la : a.length ≤ 9223372036854775807) (lb : b.length ≤ 9223372036854775807) (h : rowB a = rowB b) : a = b := by
  have h1 : rowL a = rowL b := by
    have := congrArg (fun x : ByteArray => x.data.toList) h
    simpa [rowB] using this
  have h2 := row_read ha la
  rw [h1, row_read hb lb] at h2
  exact (Option.some.inj h2).symm
def seenP (key : List Int) (t : List DeltaD) (k : ByteArray) : Bool := t.any fun y => decide (0 < y.n) && decide (rowB (keyR key y.row) = k)
theorem keyR_fit {key : List Int} {r : List ValD} (hf : FitK key r) (h : ∀ v ∈ r, FitV v) : ∀ v ∈ keyR key r, FitV v := fun v hv => by
  obtain ⟨k, hk, rfl⟩ := List.mem_map.1 hv
  obtain ⟨h1, h2⟩ := hf k hk
  have hj : k.toNat < r.length := by omega
  rw [List.getD_eq_getElem?_getD, List.getElem?_eq_getElem hj]
  exact h _ (List.getElem_mem hj)
theorem seen_later {key : List Int} (hkl : key.length ≤ 10000000) {d : DeltaD} {t : List DeltaD} (hf : ∀ x ∈ d :: t, FitK key x.row) (h : ∀ x ∈ d :: t, ∀ v ∈ x.row, FitV v) : seenP key t (rowB (keyR key d.row)) = laterK key d t := by
  unfold seenP laterK
  have hl : ∀ r : List ValD, (keyR key r).length ≤ 9223372036854775807 := fun r => by unfold keyR; rw [List.length_map]; omega
  rw [Bool.eq_iff_iff, List.any_eq_true, List.any_eq_true]
  constructor
  · rintro ⟨y, hy, hb⟩
    refine ⟨y, hy, ?_⟩
    rw [Bool.and_eq_true] at hb ⊢
    have h1 := of_decide_eq_true hb.1
    have h2 := rowB_inj (keyR_fit (hf y (by simp [hy])) (h y (by simp [hy]))) (keyR_fit (hf d (by simp)) (h d (by simp))) (hl _) (hl _) (of_decide_eq_true hb.2)
    exact ⟨by rw [decide_eq_false (by omega)]; rfl, decide_eq_true h2.symm⟩
  · rintro ⟨y, hy, hb⟩
    refine ⟨y, hy, ?_⟩
    rw [Bool.and_eq_true] at hb ⊢
    have h1 : ¬ y.n < 1 := of_decide_eq_false (by simpa using hb.1)
    have h2 : keyR key d.row = keyR key y.row := of_decide_eq_true hb.2
    exact ⟨decide_eq_true (by omega), decide_eq_true (by rw [h2])⟩
theorem choose_fn {β : Type} (d : β) {n : Nat} {P : Nat → β → Prop} (h : ∀ j, j < n → ∃ b, P j b) : ∃ f : Nat → β, ∀ j, j < n → P j (f j) :=
  ⟨fun j => if hj : j < n then Classical.choose (h j hj) else d, fun j hj => by
    simp only [dif_pos hj]
    exact Classical.choose_spec (h j hj)⟩
theorem Backward_use {W w : World} {S : List Own} {Φ : PW} [Stable Φ] {p : Option Addr} {n cp : Nat} (c : Ctx W w S Φ) {K : Ending → World → Prop}
    (hk : ∀ kb w', Ctx W w' (.blk kb [.slice p n cp] 45 :: S) Φ → K (.returned (.func (.func F.slices_Backward_api_Delta_api_Delta_1) #[] #[.pointer (some ⟨kb, 0, none⟩)])) w') : Calls Tryz.prog F.slices_Backward_api_Delta_api_Delta #[.slice p n cp] w K :=
  (Bslices_Backward_api_Delta_api_Delta_run p n cp (R := S) c (J := fun v w' => K (.returned v) w') fun kb w' F cx => hk kb w' cx.left).mono fun e w' ⟨v, he, h⟩ => by subst he; exact h
theorem pushV {W w : World} {R G : List Own} {PS : PW} [Stable PS] {op : Option Addr} {oc : Nat} {ds : List Value} {o : List ValD} {x : ValD} {kb : Nat} (hx : (I64 x.kind ∧ I64 x.num) ∧ x.text.size ≤ maxLen) (ho : o.length < 10000000)
    (cx : Ctx W w (.blk kb x.cells 78 :: .buf op o.length oc ds 78 3 :: R ++ G) (fun M w => PS M w ∧ Elems M w ds o)) :
    ∃ p c w', Sem.run Tryz.prog (builtin Builtin.append #[49, 49] 49 #[false, false] #[.slice op o.length oc, .slice (some ⟨kb, 0, none⟩) 1 1]) w = .ok (.value (.slice p (o ++ [x]).length c)) w' ∧ Ctx W w' (.buf p (o ++ [x]).length c (ds ++ x.cells) 78 3 :: R ++ G) (fun M w => PS M w ∧ Elems M w (ds ++ x.cells) (o ++ [x])) := by
  obtain ⟨p', cap', w', hrun, _, cx'⟩ := Ctx.app1 (P := Tryz.prog) (ts := 49) (ty := 49) (kb := #[false, false]) (size := 3) (bytes := 32) cx (by kernel_rfl) (by omega) rfl rfl (by omega) (by omega)
  have e : o.length + 1 = (o ++ [x]).length := by simp
  rw [e] at hrun cx'
  exact ⟨p', cap', w', hrun, cx'.weak fun M w h => ⟨h.1, h.2.snoc (val_rep hx)⟩⟩
section
variable {Φ : PW} {q : KP} {st : SkD} {W w : World} {R S G : List Own} {p r : Option Addr} {cap cap2 : Nat} {L : List LineD} {cs : List Value}
set_option maxHeartbeats 8000000 in
theorem CellsS_q [Stable Φ] [hT : Has Φ TabI] [hF : Has Φ (SkF q st)] (hq : SkQ q st) (hI : SkI st) {n : Nat} (hs : SkS st n) (hn : n ≤ 400000) (hkl : st.key.length ≤ 100000) (hfit : ∀ d ∈ netP st.lines, FitK st.key d.row) (htx : ∀ d ∈ netP st.lines, ∀ v ∈ d.row, v.text.size ≤ 10000) : GivesQSl (SkO q st) Φ Tryz.prog F.sink_Sink_Cells #[snk q] (skCells st) := by
  suffices hgo : There q.kp st.key.length → GivesQSl (SkO q st) Φ Tryz.prog F.sink_Sink_Cells #[snk q] (skCells st) from ⟨fun W w S c => (hgo (hF.go _ _ c.phi).2.1.there).go W w S c⟩
  intro htk
  refine gives_qsl (Bsink_Sink_Cells_run q.sb 0) fun W R => fun _ w G cx => ⟨st.kind, sk_cell (i := 0) cx rfl, ?_⟩
  clear cx
  refine Br.intro (fun hk => fun w G cx => ?_) (fun hk => ?_)
  · have hsk : skCells st = [] := by unfold skCells; rw [if_neg (of_decide_eq_true hk)]
    rw [hsk]
    exact ⟨none, 0, rfl, Nat.le_refl _, by decide, cx.left.weak fun M w h => ⟨h, fun i hi => absurd hi (by simp)⟩⟩
  have hk1 : st.kind = 1 := Decidable.not_not.1 (of_decide_eq_false hk)
  refine fun _ km _ w G cx => ((NetS_q hq hI hs hn).go W w (.obj km (.map #[] 0) :: (R ++ G)) (Ctx.re (Ctx.mid (B := R) cx) (by simp))).mono fun e w' ⟨p0, c0, he, g1, g2, cx⟩ => ?_
  have hnl := net_len st.lines
  have hll := hs.lines
  have hrow := net_row hI
  obtain ⟨l, hl⟩ : ∃ l, netP st.lines = l := ⟨_, rfl⟩
  have hsk : skCells st = cellsK st.key l := by unfold skCells; rw [if_pos hk1, hl]
  rw [hl] at hnl hrow hfit htx g1 he cx
  rw [hsk]
  clear hsk
  obtain ⟨gD, oD, cD, hpD, cx⟩ := cx.pin cx.phi.2
  obtain ⟨QS, hQS⟩ : ∃ QS : PW, QS = (fun M w => (Φ M w ∧ Sl M w p0 l) ∧ Pin gD oD cD l M w) := ⟨_, rfl⟩
  have stQ : Stable QS := by rw [hQS]; infer_instance
  have iQ : ∀ M w, QS M w → Φ M w := fun M w h => by rw [hQS] at h; exact h.1.1
  have iP : ∀ M w, QS M w → Pin gD oD cD l M w := fun M w h => by rw [hQS] at h; exact h.2
  rw [← hQS] at cx
  clear hQS
  have hcs := Ctx.cells cx iP
  obtain ⟨pf, hpf⟩ := choose_fn (β := Option Addr × Nat) (none, 0) (n := l.length) (P := fun j b => ∃ hj : j < l.length, cD.getD j [] = l[j].cells b.1 b.2 ∧ l[j].row.length ≤ b.2 ∧ b.2 ≤ maxLen ∧ I64 l[j].time ∧ I64 l[j].n) fun j hj => by
    obtain ⟨p, c, h⟩ := hcs j hj
    exact ⟨(p, c), hj, h⟩
  have hfv : ∀ x ∈ l, ∀ v ∈ x.row, FitV v := fun x hx v hv => by
    obtain ⟨j, hj, rfl⟩ := List.getElem_of_mem hx
    obtain ⟨_, e, _⟩ := hpf j hj
    have := sl_i64 (pin_row (iP _ _ cx.phi) hj e) v hv
    exact ⟨this.1, by have := this.2; unfold maxLen at this; omega⟩
  obtain ⟨key, hkey⟩ : ∃ key, st.key = key := ⟨_, rfl⟩
  have hK : ∀ M w, QS M w → Sl M w q.kp key := fun M w h => by rw [← hkey]; exact (hF.go M w (iQ M w h)).2.1
  obtain ⟨S0, hS0⟩ : ∃ S0, SkO q st ++ R = S0 := ⟨_, rfl⟩
  have hcellK : ∀ {w : World} {G : List Own} {Ψ : PW}, Ctx W w (S0 ++ G) Ψ → w.cell? ⟨q.sb, 0 + 1, none⟩ = some (.slice q.kp key.length q.kc) := fun {w G Ψ} cx => by rw [← hkey]; rw [← hS0] at cx; exact sk_cell (i := 1) cx rfl
  have cx : Ctx W w' ((.obj km (.map #[] 0) :: S0) ++ G) QS := by rw [← hS0]; exact Ctx.front (A := SkO q st) (B := R) (cx.re (by simp))
  refine ⟨p0, _, c0, he, .obj km (.map #[] 0) :: S0, QS, stQ, cx, ?_⟩
  rw [hkey] at hfit hkl htk ⊢
  rw [hS0]
  clear cx he hcs
  refine fun w G cx => Backward_use cx fun kb w cx => ⟨_, _, _, rfl, .blk kb [.slice p0 l.length c0] 45 :: .obj km (.map #[] 0) :: S0, QS, stQ, cx, rfl, by kernel_rfl, l.length, ?_⟩
  clear cx
  have hit : Iter Tryz.prog F.slices_Backward_api_Delta_api_Delta_1 #[.pointer (some ⟨kb, 0, none⟩)] l.length (fun k => #[.int .i64 ((l.length : Int) - 1 - k), .agg #[.int .i64 ((l.getD (l.length - 1 - k) ⟨0, [], 0⟩).time), .slice (pf (l.length - 1 - k)).1 ((l.getD (l.length - 1 - k) ⟨0, [], 0⟩).row.length) (pf (l.length - 1 - k)).2, .int .i64 ((l.getD (l.length - 1 - k) ⟨0, [], 0⟩).n)]]) (fun w => w.cell? ⟨kb, 0, none⟩ = some (.slice p0 l.length c0) ∧ ∀ j, j < l.length → RowAt w gD (oD + j * 3) (dV (fun j => (l.getD j ⟨0, [], 0⟩).time) (fun j => (l.getD j ⟨0, [], 0⟩).n) (fun j => (pf j).1) (fun j => (l.getD j ⟨0, [], 0⟩).row.length) (fun j => (pf j).2) j)) :=
    back_iter' hpD g1 g2 (by omega) _ _ _ _ _
  have getl : ∀ j (hj : j < l.length), l.getD j ⟨0, [], 0⟩ = l[j] := fun j hj => by rw [List.getD_eq_getElem?_getD, List.getElem?_eq_getElem hj]; rfl
  refine exI_mk (fun k => [.int .i64 ((l.length : Int) - 1 - k), .agg #[.int .i64 ((l.getD (l.length - 1 - k) ⟨0, [], 0⟩).time), .slice (pf (l.length - 1 - k)).1 ((l.getD (l.length - 1 - k) ⟨0, [], 0⟩).row.length) (pf (l.length - 1 - k)).2, .int .i64 ((l.getD (l.length - 1 - k) ⟨0, [], 0⟩).n)]])
    (exI_mk (fun w => w.cell? ⟨kb, 0, none⟩ = some (.slice p0 l.length c0) ∧ ∀ j, j < l.length → RowAt w gD (oD + j * 3) (dV (fun j => (l.getD j ⟨0, [], 0⟩).time) (fun j => (l.getD j ⟨0, [], 0⟩).n) (fun j => (pf j).1) (fun j => (l.getD j ⟨0, [], 0⟩).row.length) (fun j => (pf j).2) j))
    (exI_mk (fun a t p n c m k => t = (l.getD (l.length - 1 - k) ⟨0, [], 0⟩).time ∧ p = (pf (l.length - 1 - k)).1 ∧ n = (l.getD (l.length - 1 - k) ⟨0, [], 0⟩).row.length ∧ c = (pf (l.length - 1 - k)).2 ∧ m = (l.getD (l.length - 1 - k) ⟨0, [], 0⟩).n)
    (exI_mk (fun op on oc R' Φ' k => ∃ (ds : List Value) (o : List DeltaD) (es : List (GEnt ByteArray Bool)) (clk : Nat), k ≤ l.length ∧ o = (cellsK key (l.drop (l.length - k))).reverse ∧ GOk es clk ∧ (∀ x, getG false es x = seenP key (l.drop (l.length - k)) x) ∧ on = o.length ∧ R' = .buf op o.length oc ds 71 3 :: .obj km (gObj Value.string Value.bool es clk) :: .blk kb [.slice p0 l.length c0] 45 :: S0 ∧ Φ' = (fun M w => QS M w ∧ Elems M w ds o))
      ⟨hit, fun k hk => ⟨rfl, rfl, rfl, rfl, rfl⟩, ⟨.buf none 0 0 [] 71 3 :: .obj km (.map #[] 0) :: .blk kb [.slice p0 l.length c0] 45 :: S0, fun M w => QS M w ∧ Elems M w [] ([] : List DeltaD), inferInstance, fun w G cx => ((Ctx.swap cx).weak fun M w h => ⟨h, Elems.nil⟩).nobuf 71 3, [], [], [], 0, Nat.zero_le _, by rw [Nat.sub_zero, List.drop_length]; rfl, ⟨.nil, .nil, by simp⟩, fun x => by rw [Nat.sub_zero, List.drop_length]; rfl, rfl, rfl, rfl⟩, ?_⟩)))
  clear hit
  rintro op _ oc R1 Φ1 k _ ⟨ds, o, es, clk, hk, ho, hok, hseen, rfl, rfl, rfl⟩
  have hol : o.length ≤ 400000 := by
    rw [ho, List.length_reverse]
    have := cellsK_len key (l.drop (l.length - k))
    rw [List.length_drop] at this
    omega
  refine ⟨fun w G cx => ⟨cx.get 2 rfl rfl, fun j hj => ?_⟩, fun hlt => ?_, fun hend => ?_⟩
  · obtain ⟨_, e, _⟩ := hpf j hj
    have := pin_rowAt (iP _ _ cx.phi.1) hj e
    simp only [dV, getl j hj]
    exact this
  rotate_left
  · -- the end
    subst hend
    rw [Nat.sub_self, List.drop_zero] at ho
    refine fun w G cx => ?_
    obtain ⟨es2, hds, hes⟩ := elems_ex cx.phi.2
    have hel : es2.length = o.length := by rw [← hes, List.length_map]
    subst hds
    rw [← hel]
    rw [← hel] at cx
    have cx2 : Ctx W w ((bufE op oc es2 :: (.obj km (gObj Value.string Value.bool es clk) :: .blk kb [.slice p0 l.length c0] 45 :: S0)) ++ G) (fun M w => QS M w ∧ EPhi es2 M w) := cx.weak fun M w h => ⟨h.1, elems_e (by rw [hes]; exact h.2)⟩
    refine Reverse_use es2 cx2 rfl (by omega) fun w cx => ⟨rfl, bufE op oc es2.reverse :: (.obj km (gObj Value.string Value.bool es clk) :: .blk kb [.slice p0 l.length c0] 45 :: S0), _, inferInstance, cx, fun w G cx => ?_⟩
    have cx3 := cx.left
    have hre : es2.reverse.map DE.d = cellsK key l := by rw [List.map_reverse, hes, ho, List.reverse_reverse]
    obtain ⟨cx4, hsl, _, h2, h3⟩ := Ctx.freeze (α := DeltaD) cx3 (l := cellsK key l) (by
      rw [← hre]
      exact e_elems fun x hx => cx3.phi.2 x (List.mem_reverse.1 hx))
    have hlen2 : es2.length = (cellsK key l).length := by rw [← hre, List.length_map, List.length_reverse]
    rw [hlen2]
    exact ⟨op, oc, rfl, by rw [← hlen2]; simpa using h2, h3, ((cx4.add hsl).drop1).drop1.weak fun M w h => ⟨iQ M w h.1.1, h.2⟩⟩
  -- one more delta
  rintro a t2 p2 n2 c2 m2 ⟨rfl, rfl, rfl, rfl, rfl⟩
  obtain ⟨j, hj⟩ : ∃ j, l.length - 1 - k = j := ⟨_, rfl⟩
  have hjl : j < l.length := by omega
  have e1 : l.length - k = j + 1 := by omega
  have e2 : l.length - (k + 1) = j := by omega
  rw [hj, getl j hjl]
  rw [e1] at ho hseen
  have hdr : l.drop j = l[j] :: l.drop (j + 1) := List.drop_eq_getElem_cons hjl
  obtain ⟨_, e3, f1, f2, f3, f4⟩ := hpf j hjl
  have hfj := hfit _ (List.getElem_mem hjl)
  have hrj := hrow _ (List.getElem_mem hjl)
  have htj := htx _ (List.getElem_mem hjl)
  have hsj : ∀ M w, QS M w → Sl M w (pf j).1 l[j].row := fun M w h => pin_row (iP M w h) hjl e3
  have hfvj := hfv _ (List.getElem_mem hjl)
  have hlat := seen_later (by omega) (d := l[j]) (t := l.drop (j + 1)) (fun x hx => hfit x (by rw [← hdr] at hx; exact List.mem_of_mem_drop hx)) (fun x hx => hfv x (by rw [← hdr] at hx; exact List.mem_of_mem_drop hx))
  obtain ⟨tl, htl⟩ : ∃ tl, l.drop (j + 1) = tl := ⟨_, rfl⟩
  obtain ⟨q1, hq1⟩ : ∃ q1, (pf j).1 = q1 := ⟨_, rfl⟩
  obtain ⟨qc1, hqc1⟩ : ∃ qc1, (pf j).2 = qc1 := ⟨_, rfl⟩
  obtain ⟨X, hX⟩ : ∃ X, l[j] = X := ⟨_, rfl⟩
  rw [htl] at ho hseen hlat hdr
  rw [hX] at f1 f3 f4 hfj hrj htj hsj hfvj hlat hdr ⊢
  rw [hq1] at hsj ⊢
  rw [hqc1] at f1 f2 ⊢
  obtain ⟨S1, hS1⟩ : ∃ S1 : List Own, S1 = .buf op o.length oc ds 71 3 :: .obj km (gObj Value.string Value.bool es clk) :: .blk kb [.slice p0 l.length c0] 45 :: S0 := ⟨_, rfl⟩
  obtain ⟨PS, hPS⟩ : ∃ PS : PW, PS = (fun M w => QS M w ∧ Elems M w ds o) := ⟨_, rfl⟩
  have stP : Stable PS := by rw [hPS]; infer_instance
  have i1 : ∀ M w, PS M w → QS M w := fun M w h => by rw [hPS] at h; exact h.1
  rw [← hS1, ← hPS]
  refine fun _ w G cx => ⟨q.kp, key.length, q.kc, hcellK (G := G) (by rw [hS1] at cx; exact ((Ctx.drop1 cx).drop1).drop1), ?_⟩
  have htX := (hsj _ _ (i1 _ _ cx.phi)).there
  clear cx
  -- its key
  refine exI_mk (fun vp vn vc iI R' Φ' kk => ∃ (i : Nat) (vs : List Value), iI = i ∧ i ≤ key.length ∧ vn = (keyR (key.take i) X.row).length ∧ R' = .buf vp (keyR (key.take i) X.row).length vc vs 78 3 :: S1 ∧ Φ' = (fun M w => PS M w ∧ Elems M w vs (keyR (key.take i) X.row)) ∧ kk = key.length - i)
    ⟨⟨.buf none 0 0 [] 78 3 :: S1, fun M w => PS M w ∧ Elems M w [] ([] : List ValD), _, inferInstance, fun w G cx => (cx.weak fun M w h => ⟨h, Elems.nil⟩).nobuf 78 3, 0, [], rfl, Nat.zero_le _, rfl, rfl, rfl, rfl⟩, ?_⟩
  rintro vp _ vc iI R2 Φ2 kk _ ⟨i, vs, rfl, hi, rfl, rfl, rfl, rfl⟩
  have hvl : (keyR (key.take i) X.row).length = i := by unfold keyR; rw [List.length_map, List.length_take]; omega
  refine Br.intro (fun hlt2 => ?_) (fun hge2 => fun w G cx => ?_)
  · have hlt2 : i < key.length := by have := of_decide_eq_true hlt2; omega
    obtain ⟨gk, ok, hkp⟩ := htk (by omega)
    obtain ⟨k1, k2⟩ := hfj _ (List.getElem_mem hlt2)
    obtain ⟨gX, oX, hXp⟩ := htX (by omega)
    obtain ⟨m, hm⟩ : ∃ m : Nat, key[i] = (m : Int) := ⟨key[i].toNat, by omega⟩
    have hmX : m < X.row.length := by omega
    have hstep : keyR (key.take (i + 1)) X.row = keyR (key.take i) X.row ++ [X.row[m]] := by
      unfold keyR
      rw [List.take_succ_eq_append_getElem hlt2, List.map_append, List.map_cons, List.map_nil, hm, Int.toNat_natCast, List.getD_eq_getElem?_getD, List.getElem?_eq_getElem hmX]; rfl
    refine ⟨by omega, ptrK_intro gk ok hkp fun w G cx => ⟨key[i], by rw [Int.toNat_natCast]; exact sl_int (by rw [← hkp]; exact hK _ _ (i1 _ _ cx.phi.1)) hlt2, by omega, ptrK_intro gX oX hXp fun w G cx => ⟨X.row[m].kind, X.row[m].num, X.row[m].text, by rw [hm, Int.toNat_natCast]; exact sl_val (by rw [← hXp]; exact hsj _ _ (i1 _ _ cx.phi.1)) hmX, fun kv w G cx => ?_⟩⟩⟩
    have hv := hfvj _ (List.getElem_mem hmX)
    obtain ⟨p', c', w', hrun, cx'⟩ := pushV (x := X.row[m]) (PS := PS) ⟨hv.1, by have := hv.2; unfold maxLen; omega⟩ (by omega) cx
    rw [← hstep] at hrun cx'
    have st3 : Stable (fun M w => PS M w ∧ Elems M w (vs ++ X.row[m].cells) (keyR (key.take (i + 1)) X.row)) := inferInstance
    exact ⟨p', _, c', w', hrun, _, _, st3, cx', by unfold Go.Vc.I64; omega, _, _, key.length - (i + 1), st3, fun w G cx => cx, ⟨i + 1, _, by omega, hlt2, rfl, rfl, rfl, rfl⟩, by omega⟩
  have hge2 : i = key.length := by have := of_decide_eq_false hge2; omega
  subst hge2
  rw [List.take_length] at hvl cx ⊢
  obtain ⟨cx2, hsv, _, v1, v2⟩ := Ctx.freeze (α := ValD) cx cx.phi.2
  have cx3 := (cx2.add hsv).weak (Ψ := fun M w => PS M w ∧ Sl M w vp (keyR key X.row)) fun M w h => ⟨h.1.1, h.2⟩
  clear cx cx2
  refine (RowBytes_in (Φ := fun M w => PS M w ∧ Sl M w vp (keyR key X.row)) vp vc (keyR key X.row) (fun M w h => hT.go M w (iQ M w (i1 M w h.1))) (fun M w h => h.2) (by omega) (fun v hv => ?_)).toS cx3 ?_
  · obtain ⟨k, hk, rfl⟩ := List.mem_map.1 hv
    obtain ⟨h1, h2⟩ := hfj k hk
    have hj : k.toNat < X.row.length := by omega
    rw [List.getD_eq_getElem?_getD, List.getElem?_eq_getElem hj]
    exact htj _ (List.getElem_mem hj)
  clear cx3
  have hseenX := (hseen (rowB (keyR key X.row))).trans hlat
  subst hS1
  have hmap : ∀ {w : World} {G : List Own} {Ψ : PW}, Ctx W w ((.buf op o.length oc ds 71 3 :: .obj km (gObj Value.string Value.bool es clk) :: .blk kb [.slice p0 l.length c0] 45 :: S0) ++ G) Ψ → w.heap[km]? = some (gObj Value.string Value.bool es clk) := fun {w G Ψ} cx => cx.own (.obj km (gObj Value.string Value.bool es clk)) (by simp)
  refine fun w G cx => ⟨getG false es (rowB (keyR key X.row)), fun _ w2 hw2 => run_lookupG seenTy (by rw [hw2]; exact hmap cx) _, ?_⟩
  clear cx
  rw [hseenX]
  have hlive : liveK key X tl = (decide (0 < X.n) && !laterK key X tl) := rfl
  rw [← hlive]
  have hcells : cellsK key (X :: tl) = if liveK key X tl = true then X :: cellsK key tl else cellsK key tl := rfl
  have hsn : ∀ x, seenP key (X :: tl) x = ((decide (0 < X.n) && decide (rowB (keyR key X.row) = x)) || seenP key tl x) := fun x => rfl
  refine Br.intro (fun hli => fun w G cx => ?_) (fun hnl => ?_)
  · rw [if_pos hli] at hcells
    have hpos : 0 < X.n := by rw [hlive, Bool.and_eq_true] at hli; exact of_decide_eq_true hli.1
    obtain ⟨es1, clk1, hrun, hok1, hg1⟩ := run_updateG seenTy hok (hmap cx) (rowB (keyR key X.row)) true
    have cy := cx.putObj 1 (gObj Value.string Value.bool es1 clk1) rfl
    refine ⟨_, hrun, .buf op o.length oc ds 71 3 :: .obj km (gObj Value.string Value.bool es1 clk1) :: .blk kb [.slice p0 l.length c0] 45 :: S0, (fun M w => QS M w ∧ Elems M w ds o), inferInstance, cy.weak fun M w h => by have := h.1; rw [hPS] at this; exact this, fun kd w G cx => ?_⟩
    clear cy
    obtain ⟨p', c', w', hrun2, cx'⟩ := push1 (x := X) (PS := QS) (fun M w h => rep_delta f1 f2 f3 f4 (hsj M w h)) (by omega) cx
    have ho2 : o ++ [X] = (cellsK key (l.drop (l.length - (k + 1)))).reverse := by rw [e2, hdr, hcells, List.reverse_cons, ← ho]
    have st3 : Stable (fun M w => QS M w ∧ Elems M w (ds ++ X.cells q1 qc1) (o ++ [X])) := inferInstance
    refine ⟨p', _, c', w', hrun2, _, _, st3, cx', _, _, st3, fun w G cx => cx, _, o ++ [X], es1, clk1, by omega, ho2, hok1, fun x => ?_, rfl, rfl, rfl⟩
    rw [e2, hdr, hg1, hsn, hseen x, decide_eq_true hpos, Bool.true_and]
    by_cases hx : x = rowB (keyR key X.row)
    · rw [if_pos hx, decide_eq_true hx.symm, Bool.true_or]
    · rw [if_neg hx, decide_eq_false fun e => hx e.symm, Bool.false_or]
  · rw [if_neg (by rw [hnl]; simp)] at hcells
    refine ⟨_, _, (inferInstance : Stable (fun M w => QS M w ∧ Elems M w ds o)), fun w G cx => cx.weak fun M w h => by have := h.1; rw [hPS] at this; exact this, ds, o, es, clk, by omega, by rw [e2, hdr, hcells]; exact ho, hok, fun x => ?_, rfl, rfl, rfl⟩
    rw [e2, hdr, hsn, hseen x]
    by_cases hpos : 0 < X.n
    · rw [decide_eq_true hpos, Bool.true_and]
      by_cases hx : rowB (keyR key X.row) = x
      · rw [decide_eq_true hx, Bool.true_or, ← hx, hlat]
        rw [hlive, decide_eq_true hpos, Bool.true_and] at hnl
        simpa using hnl
      · rw [decide_eq_false hx, Bool.false_or]
    · rw [decide_eq_false hpos, Bool.false_and, Bool.false_or]
end
end Go.Proofs.YtemhapmbcbbljaaGreatDoor
end

section
namespace Go.Proofs.YtemhapmbcbbljaaGreatDoor
open Go.Vc
theorem net_text {st : SkD} (hI : SkI st) : ∀ d ∈ netP st.lines, ∀ v ∈ d.row, v.text.size ≤ 10000 := fun d hd => consP_row (P := fun r => ∀ v ∈ r, v.text.size ≤ 10000) (l := st.lines.map LineD.d) (fun x hx => by
  obtain ⟨y, hy, rfl⟩ := List.mem_map.1 hx
  exact fun v hv => by have := right_small (hI.row y hy) v hv; omega) d hd
section
variable {Φ : PW} {W w : World} {R S G : List Own} {p : Option Addr} {cap : Nat}
set_option maxHeartbeats 16000000 in
theorem Tells_pin [Stable Φ] [hN : Has Φ NumI] {l : List OpD} {g o : Nat} {cs : List (List Value)} {kind : Int} {kp : Option Addr} {kc : Nat} {key : List Int} (hkd : I64 kind) [hK : Has Φ (fun M w => Sl M w kp key)] (hp : 0 < l.length → p = some ⟨g, o, none⟩) (hP : ∀ M w, Φ M w → Pin g o cs l M w) (hlen : l.length ≤ maxLen) :
    GivesIn Φ Tryz.prog F.erratalaw43_SinkTells #[.int .i64 kind, .slice kp key.length kc, .slice p l.length cap] (.bool true) := by
  refine ⟨fun W0 w0 S0 c0 => GivesIn.go (gives_in (Berratalaw43_SinkTells_run kind kp key.length kc p l.length cap) fun W R => ?_) W0 w0 S0 c0⟩
  have hc : ∀ j (hj : j < l.length), ∃ p c, cs.getD j [] = l[j].cells p c ∧ l[j].l.length ≤ c ∧ c ≤ maxLen ∧ I64 l[j].op ∧ I64 l[j].batch := fun j hj => pin_op (hP _ _ c0.phi) hj
  clear c0
  refine fun w G cx => small43_in.toB cx ?_
  clear cx
  refine fun w G cx => (few43_in (l := l) (n := 60) hp hP hlen).toB cx ?_
  clear cx
  refine Br.intro (fun _ => fun w G cx => ⟨rfl, cx.left⟩) (fun hf => Br.intro (fun _ => fun w G cx => ⟨rfl, cx.left⟩) (fun hk4 => ?_))
  have hf : fewO l 60 = true := by simpa using hf
  obtain ⟨hl60, hl8⟩ := fewO_out hf
  have hkl : key.length ≤ 4 := by have := of_decide_eq_false hk4; omega
  refine fun w G cx => New_to (key := key) (kind := kind) (by omega) cx (fun h0 => ?_) fun q0 hok hq0 st0 => ?_
  · clear cx
    refine fun w G cx => New43_to (key := key) (kind := kind) (by omega) cx (fun _ => ?_) fun qr h => by rw [h0] at h; cases h
    clear cx
    refine Br.intro (fun h => by cases h) (fun _ => exI_mk (fun pt n R' Φ' k => pt = none ∧ R' = R ∧ Φ' = Φ) ⟨⟨R, Φ, 0, inferInstance, fun w G cx => cx, rfl, rfl, rfl⟩, ?_⟩)
    rintro pt n R1 Φ1 k _ ⟨rfl, rfl, rfl⟩
    exact fun w G cx => Br.intro (fun h => by simp at h) (fun _ => fun w G cx => ⟨rfl, cx.left⟩)
  clear cx
  refine fun w G cx => New43_to (R := SkO q0 (newK kind key) ++ R) (key := key) (kind := kind) (hΦ := ⟨fun M w h => hK.go M w h.1⟩) (by omega) cx (fun h => by rw [hok] at h; cases h) fun qr _ hqr st1 => ?_
  clear cx
  refine Br.intro (fun h => by cases h) (fun _ => ?_)
  have stI : ∀ (q q' : KP) (s : SkD), Stable (fun M w => (Φ M w ∧ SkF q s M w) ∧ RkF q' s M w) := fun q q' s => instStableAnd (fun M w => Φ M w ∧ SkF q s M w) (RkF q' s)
  obtain ⟨INV, hINV⟩ : ∃ I : Option Addr → Int → List Own → PW → Nat → Prop, ∀ pt iI R' Φ' k, I pt iI R' Φ' k ↔ ∃ (i : Nat) (q q' : KP) (st : SkD), iI = i ∧ i ≤ l.length ∧ pt = some ⟨q.sb, 0, none⟩ ∧ q'.sb = qr.sb ∧ SkQ q st ∧ RkQ q' st ∧ OnceI kind key st i ∧ R' = SkO q st ++ (RkO q' st ++ R) ∧ Φ' = (fun M w => (Φ M w ∧ SkF q st M w) ∧ RkF q' st M w) ∧ k = l.length - i := ⟨_, fun _ _ _ _ _ => Iff.rfl⟩
  refine exI_mk INV ⟨⟨SkO q0 (newK kind key) ++ (RkO qr (newK kind key) ++ R), (fun M w => (Φ M w ∧ SkF q0 (newK kind key) M w) ∧ RkF qr (newK kind key) M w), l.length - 0, inferInstance, fun w G cx => Ctx.swapU cx, (hINV _ _ _ _ _).2 ⟨0, q0, qr, newK kind key, rfl, Nat.zero_le _, rfl, rfl, hq0, hqr, once0 hok (by omega), rfl, rfl, rfl⟩⟩, ?_⟩
  intro pt iI R1 Φ1 k1 hst1 hinv
  obtain ⟨i, q, q', st, rfl, hi, rfl, hsb, hq, hq', hH, rfl, rfl, rfl⟩ := (hINV _ _ _ _ _).1 hinv
  clear hinv
  have hi60 : i ≤ 60 := by omega
  have hn : 8 * i + 1 ≤ 400000 := by omega
  refine fun w G cx => Br.intro (fun hlt => ?_) (fun hge => fun w G cx => ⟨rfl, (Ctx.sub cx (((List.sublist_append_right _ _).trans (List.sublist_append_right _ _)).trans (List.sublist_append_left _ _))).weak fun M w h => h.1.1⟩)
  clear cx
  have hlt : i < l.length := by
    rw [Bool.and_eq_true, Bool.and_eq_true] at hlt
    have := of_decide_eq_true hlt.1.1; omega
  obtain ⟨r, rc, he, h1, h2, h3, h4⟩ := hc i hlt
  have hrow : ∀ {w : World} {S : List Own} {Ψ : PW} [Has Ψ Φ], Ctx W w S Ψ → RowAt w g (o + ((i : Nat) : Int).toNat * 3) (l[i].cells r rc) := fun {w S Ψ} _ cx => by
    rw [Int.toNat_natCast]
    exact pino_rowAt (hP _ _ (Ctx.has (Ψ := Φ) cx).phi) hlt he
  obtain ⟨L, hL⟩ : ∃ L, l[i].l = L := ⟨_, rfl⟩
  obtain ⟨b, hb⟩ : ∃ b, l[i].batch = b := ⟨_, rfl⟩
  obtain ⟨op, hop⟩ : ∃ op, l[i].op = op := ⟨_, rfl⟩
  have hL8 : L.length ≤ 8 := by rw [← hL]; exact hl8 _ (List.getElem_mem hlt)
  have hcells : l[i].cells r rc = [.int .i64 op, .int .i64 b, .slice r L.length rc] := by rw [← hL, ← hb, ← hop]
  rw [hcells] at hrow
  rw [hb] at h4
  have hSl : Has Φ (fun M w => Sl M w r L) := ⟨fun M w h => by rw [← hL]; exact pino_sl (hP M w h) hlt he⟩
  clear hc
  have b1 := hH.bats
  have b2 := hH.lines
  have b3 := hH.aside
  have b4 : st.key.length ≤ 4 := by rw [hH.key]; exact hkl
  refine ⟨by omega, ptrK_intro g o (hp (by omega)) fun w G cx => ⟨op, b, r, L.length, rc, hrow cx, fun w G cx => ?_⟩⟩
  refine DoAll_use (R := RkO q' st ++ R) (op := op) (b := b) (L := L) hq hH.inv hH.made (by rw [hH.kind]; exact hkd) hH.prepZ hH.size hn (by omega) (by omega) cx fun q2 hq2 st3 => ?_
  clear cx
  obtain ⟨k, hk⟩ : ∃ k, andZ op 7 = k := ⟨_, rfl⟩
  rw [← hsb]
  refine Br.intro (fun h => by cases h) (fun _ => ⟨by omega, ptrK_intro g o (hp (by omega)) fun w G cx => ⟨op, b, r, L.length, rc, hrow cx, fun w G cx => ?_⟩⟩)
  refine model43_use (R := SkO q2 (opK (andZ op 7) st b L).2 ++ R) (op := op) (b := b) (L := L) (q := q') (st := st) hq' hH.inv hH.size hn (by omega) (Ctx.swapU cx) fun q3 hsb3 hq3 st4 => ?_
  clear cx
  rw [← hsb3]
  have hO := op_o hH (andZ op 7) h4 hL8
  obtain ⟨m, s2, hm⟩ : ∃ m s2, opK (andZ op 7) st b L = (m, s2) := ⟨_, _, rfl⟩
  rw [hm] at hq2 hq3 st3 st4 hO ⊢
  have hq2 : SkQ q2 s2 := hq2
  have hq3 : RkQ q3 s2 := hq3
  have hO : OnceI kind key s2 (i + 1) := hO
  obtain ⟨PX, hPX⟩ : ∃ PX : PW, PX = (fun M w => (((Φ M w ∧ SkF q st M w) ∧ RkF q' st M w) ∧ SkF q2 s2 M w) ∧ RkF q3 s2 M w) := ⟨_, rfl⟩
  have stX : Stable PX := by rw [hPX]; exact st4
  have iX : ∀ M w, PX M w → Φ M w := fun M w h => by rw [hPX] at h; exact h.1.1.1.1
  have xS : Has PX (SkF q2 s2) := ⟨fun M w h => by rw [hPX] at h; exact h.1.2⟩
  have xR : Has PX (RkF q3 s2) := ⟨fun M w h => by rw [hPX] at h; exact h.2⟩
  have xT : Has PX TabI := ⟨fun M w h => (hN.go M w (iX M w h)).1⟩
  have xΦ : Has PX Φ := ⟨iX⟩
  have hn2 : 8 * (i + 1) + 1 ≤ 400000 := by omega
  have b5 := hO.lines
  have b6 : s2.key.length ≤ 4 := by rw [hO.key]; exact hkl
  have hrw : ∀ x ∈ s2.lines, x.row.length ≤ 1000000 := fun x hx => by have := right_len (hO.inv.row x hx); omega
  have hnl := net_len s2.lines
  rw [← hPX]
  refine Br.intro (fun h => absurd rfl (of_decide_eq_true h)) (fun _ => ?_)
  refine ⟨_, _, stX, fun w G cx => cx, ptrK_intro q3.sb 0 rfl ⟨s2.kind, fun w G cx => ⟨_, rk_cell (i := 0) cx rfl, rfl⟩, fun w G cx => Kind_q.toI (R := RkO q3 s2 ++ R) (Ctx.swapU cx) ⟨fun w G cx => Ctx.swapU cx, _, _, stX, fun w G cx => cx, ?_⟩⟩⟩
  clear cx
  refine Br.intro (fun h => absurd rfl (of_decide_eq_true h)) (fun _ => fun w G cx => (Last_q hq2).toI (R := RkO q3 s2 ++ R) cx ⟨fun w G cx => cx, fun w G cx => (Last43_q hq3).toI (R := SkO q2 s2 ++ R) (Ctx.swapU cx) ⟨_, _, stX, fun w G cx => cx, ?_⟩⟩)
  clear cx
  refine Br.intro (fun h => absurd rfl (of_decide_eq_true h)) (fun _ => ptrK_intro q3.sb 0 rfl ⟨s2.prep, fun w G cx => ⟨_, rk_cell (i := 4) cx rfl, rfl⟩, fun w G cx => Prepared_q.toI (R := RkO q3 s2 ++ R) (Ctx.swapU cx) ⟨fun w G cx => Ctx.swapU cx, _, _, stX, fun w G cx => cx, ?_⟩⟩)
  clear cx
  refine Br.intro (fun h => absurd rfl (of_decide_eq_true h)) (fun _ => ptrK_intro q3.sb 0 rfl ⟨q3.lp, s2.lines.length, q3.lc, fun w G cx => ⟨_, _, _, rk_cell (i := 3) (Ctx.swapU cx) rfl, rfl⟩, fun w G cx => LinesN_q.toI (R := RkO q3 s2 ++ R) cx ⟨fun w G cx => cx, _, _, stX, fun w G cx => cx, ?_⟩⟩)
  clear cx
  refine Br.intro (fun h => absurd rfl (of_decide_eq_true h)) (fun _ => ⟨by omega, ptrK_intro g o (hp (by omega)) ⟨by omega, ptrK_intro g o (hp (by omega)) ⟨b, fun w G cx => ⟨_, hrow cx 1 (by show 1 < 3; decide), rfl⟩, b, fun w G cx => ⟨_, hrow cx 1 (by show 1 < 3; decide), rfl⟩, fun w G cx => (Has_q hq2 hO.inv hO.size hn2).toB (R := RkO q3 s2 ++ R) cx ⟨fun w G cx => cx, fun w G cx => (Has43_q hq3).toB (R := SkO q2 s2 ++ R) (Ctx.swapU cx) ⟨_, _, stX, fun w G cx => cx, ?_⟩⟩⟩⟩⟩)
  clear cx
  refine Br.intro (fun h => by simp at h) (fun _ => fun w G cx => ?_)
  have hW : SkW s2 := sk_w hO.inv (by rw [hO.kind]; exact hkd) hO.prepZ (xS.go _ _ cx.phi)
  refine (Bytes_q (q := q2) hq2 hW hO.size hn2).toS (R := RkO q3 s2 ++ R) (Ctx.swapU cx) ⟨fun w G cx => Ctx.swapU cx, fun w G cx => (Bytes43_q (q := q3) hq3 hW hO.size hn2).toS (R := SkO q2 s2 ++ R) (Ctx.swapU cx) ?_⟩
  clear cx
  refine Br.intro (fun h => absurd rfl (of_decide_eq_true h)) (fun _ => ⟨_, _, stX, fun w G cx => cx, ptrK_intro q3.sb 0 rfl ⟨q3.lp, s2.lines.length, q3.lc, fun w G cx => ⟨_, _, _, rk_cell (i := 3) cx rfl, rfl⟩, fun w G cx => (List_sl hq2 hO.inv hO.size hn2).tot (R := RkO q3 s2 ++ R) (Ctx.swapU cx) fun p3 c3 e1 e2 e3 st5 => ⟨fun w G cx => (Ctx.swapU cx).weak fun M w h => h.1, fun w G cx => ?_⟩⟩⟩)
  have hsame := SameLines_in (Φ := fun M w => PX M w ∧ Sl M w p3 s2.lines) (p := p3) (cap := c3) (r := q3.lp) (cap2 := q3.lc) (a := s2.lines) (b := s2.lines) (hA := ⟨fun M w h => h.2⟩) (hB := ⟨fun M w h => (xR.go M w h.1).1⟩) (by omega) hrw
  rw [decide_eq_true rfl] at hsame
  refine hsame.toB cx ⟨_, _, st5, fun w G cx => cx, ?_⟩
  clear cx hsame
  have hS2 : Has (fun M w => PX M w ∧ Sl M w p3 s2.lines) (SkF q2 s2) := ⟨fun M w h => xS.go M w h.1⟩
  refine Br.intro (fun h => by cases h) (fun _ => fun w G cx => (NetS_q hq2 hO.inv hO.size hn2).tot (R := RkO q3 s2 ++ R) cx fun p4 c4 f1 f2 f3 st6 => ⟨fun w G cx => cx.weak fun M w h => h.1, fun w G cx => ?_⟩)
  have hR2 : Has (fun M w => (PX M w ∧ Sl M w p3 s2.lines) ∧ Sl M w p4 (netP s2.lines)) (RkF q3 s2) := ⟨fun M w h => xR.go M w h.1.1⟩
  refine (Net43_q hq3 hO.inv (by omega)).tot (R := SkO q2 s2 ++ R) (Ctx.swapU cx) fun p5 c5 k1 k2 k3 st7 => fun w G cx => ?_
  have heq := Equal_in (Φ := fun M w => ((PX M w ∧ Sl M w p3 s2.lines) ∧ Sl M w p4 (netP s2.lines)) ∧ Sl M w p5 (netP s2.lines)) p4 c4 (netP s2.lines) p5 c5 (netP s2.lines) (fun M w h => h.1.2) (fun M w h => h.2) (by omega)
  rw [decide_eq_true rfl] at heq
  refine heq.toB cx ⟨_, _, st7, fun w G cx => cx, ?_⟩
  clear cx heq
  have hS3 : Has (fun M w => ((PX M w ∧ Sl M w p3 s2.lines) ∧ Sl M w p4 (netP s2.lines)) ∧ Sl M w p5 (netP s2.lines)) (SkF q2 s2) := ⟨fun M w h => xS.go M w h.1.1.1⟩
  have hT3 : Has (fun M w => ((PX M w ∧ Sl M w p3 s2.lines) ∧ Sl M w p4 (netP s2.lines)) ∧ Sl M w p5 (netP s2.lines)) TabI := ⟨fun M w h => xT.go M w h.1.1.1⟩
  refine Br.intro (fun h => by cases h) (fun _ => fun w G cx => (CellsS_q hq2 hO.inv hO.size hn2 (by omega) (net_fit hO.made) (net_text hO.inv)).tot (R := RkO q3 s2 ++ R) (Ctx.swapU cx) fun p6 c6 m1 m2 m3 st8 => ⟨fun w G cx => (Ctx.swapU cx).weak fun M w h => h.1, fun w G cx => ?_⟩)
  have hR3 : Has (fun M w => (((PX M w ∧ Sl M w p3 s2.lines) ∧ Sl M w p4 (netP s2.lines)) ∧ Sl M w p5 (netP s2.lines)) ∧ Sl M w p6 (skCells s2)) (RkF q3 s2) := ⟨fun M w h => xR.go M w h.1.1.1.1⟩
  refine (Cells43_q hq3 hO.inv (by omega) (by omega) (net_fit hO.made)).tot (R := SkO q2 s2 ++ R) (Ctx.swapU cx) fun p7 c7 n1 n2 n3 st9 => fun w G cx => ?_
  have hcl : (skCells s2).length ≤ 1000000 := by
    unfold skCells
    split
    · have := cellsK_len s2.key (netP s2.lines); omega
    · exact Nat.zero_le _
  have heq := Equal_in (Φ := fun M w => ((((PX M w ∧ Sl M w p3 s2.lines) ∧ Sl M w p4 (netP s2.lines)) ∧ Sl M w p5 (netP s2.lines)) ∧ Sl M w p6 (skCells s2)) ∧ Sl M w p7 (skCells s2)) p6 c6 (skCells s2) p7 c7 (skCells s2) (fun M w h => h.1.2) (fun M w h => h.2) (by omega)
  rw [decide_eq_true rfl] at heq
  refine heq.toB cx (Br.intro (fun h => by cases h) (fun _ => ⟨by unfold I64; omega, SkO q2 s2 ++ (RkO q3 s2 ++ R), (fun M w => (Φ M w ∧ SkF q2 s2 M w) ∧ RkF q3 s2 M w), l.length - (i + 1), stI _ _ _, fun w G cx => (Ctx.swapU cx).weak fun M w h => ⟨⟨iX M w h.1.1.1.1.1, xS.go M w h.1.1.1.1.1⟩, xR.go M w h.1.1.1.1.1⟩, (hINV _ _ _ _ _).2 ⟨i + 1, q2, q3, s2, by omega, hlt, rfl, by rw [hsb3, hsb], hq2, hq3, hO, rfl, rfl, rfl⟩, by omega⟩))
theorem Tells_in [Stable Φ] [hN : Has Φ NumI] {l : List OpD} {kind : Int} {kp : Option Addr} {kc : Nat} {key : List Int} (hkd : I64 kind) [hK : Has Φ (fun M w => Sl M w kp key)] [hΦ : Has Φ (fun M w => Sl M w p l)] (hlen : l.length ≤ maxLen) :
    GivesIn Φ Tryz.prog F.erratalaw43_SinkTells #[.int .i64 kind, .slice kp key.length kc, .slice p l.length cap] (.bool true) :=
  .pinned hΦ.go fun b o cs hp => Tells_pin (hK := ⟨fun M w h => hK.go M w h.1⟩) hkd hp (fun M w h => h.2) hlen
end
end Go.Proofs.YtemhapmbcbbljaaGreatDoor
end

section
namespace Go.Proofs.YtemhapmbcbbljaaGreatDoor
open Go.Vc Go.RowKit
theorem la_row (u : TypeId) (h : Tryz.prog.typeName? 3 u = some "*errors.errorString") : u = 165 :=
  typeName_ptr_named (nm := "errors.errorString") (by rw [show "*" ++ "errors.errorString" = "*errors.errorString" by decide]; kernel_rfl) (by kernel_rfl) (by decide) u (by rw [show "*" ++ "errors.errorString" = "*errors.errorString" by decide]; exact h)
theorem la_err {n : String} {text : List UInt8} {r : List (String × DataW Unit)} {W : World} {g : Nat} (h : laidMet Tryz.prog ((n, .iface "*errors.errorString" (.ptr (.agg [.lit (.string text)]))) :: r) W)
    (hg : Tryz.prog.globalNamed n = some g) (ht : (Tryz.prog.globals[g]?).map (·.type) = some 95) : ErrAt g [] W := by
  obtain ⟨a, s, hv, _⟩ := laid_sentinel h hg ht Tryz.underlying95 la_row Tryz.underlying165 Tryz.underlying167 rfl rfl Tryz.underlying9 (by kernel_rfl) (by kernel_rfl)
  exact ⟨by simp, _, by have h0 := World.var?_cell hg hv 0; simpa using h0, .inr ⟨_, _, rfl⟩⟩
theorem la_num {W : World} (h : laidMetH Tryz.prog Rows.sinkTellsRow.laid W) : NumI [] W := by
  rw [MakeChecks.laidMetH_plain Tryz.prog Rows.sinkTellsRow.laid W (by kernel_rfl)] at h
  have h2 := h.tail.tail
  exact ⟨Tab.start (Lib.tabIs_of_head (k := .u64) (zs := Lib.pow10Tab) (g := 0) (t := 152) (e := 134) (n := 20) (by kernel_rfl) (by kernel_rfl) (by kernel_rfl) (by kernel_rfl) (by kernel_rfl) (by kernel_rfl) h2),
    la_err h2.tail.tail (by kernel_rfl) (by kernel_rfl), la_err h2.tail (by kernel_rfl) (by kernel_rfl)⟩
end Go.Proofs.YtemhapmbcbbljaaGreatDoor
end

section
namespace Go.Proofs.YtemhapmbcbbljaaGreatDoor
open Go.ChangeShapes Go.WideShapes Go.ChangeAt Go.RowKit Go.Vc
theorem df_own : ownKnob Tryz.prog.godebug = none := by kernel_rfl
theorem df_laid : laidOutB Tryz.prog = true := by kernel_rfl
theorem wf_I64 {x : Int} (h : (Lit.int .i64 x).wf = true) : I64 x := by
  simp [Lit.wf, IntKind.min, IntKind.max, IntKind.signed, IntKind.bits] at h
  exact h
theorem trodAll_n {H : Type} {enc : TypeId × Value → H} {P : Program} {w : World} {base : Nat} {spare : Nat → Bool} {held : Bool} {t0 t1 t2 : TypeId} {args : Array Value} {ds : List (DataW H)} {ps : List MemPlace} (h : DataW.TrodAll enc P w base spare held [t0, t1, t2] args.toList ds ps) :
    ∃ v0 v1 v2 d0 d1 d2 p0 p1 p2, args = #[v0, v1, v2] ∧ ds = [d0, d1, d2] ∧ ps = p0 ++ p1 ++ p2 ∧ DataW.Trod enc P w base spare held t0 v0 d0 p0 ∧ DataW.Trod enc P w base spare held t1 v1 d1 p1 ∧ DataW.Trod enc P w base spare held t2 v2 d2 p2 := by
  obtain ⟨v0, vs0, d0, ds0, p0, q0, hargs, rfl, rfl, h0, h⟩ := trodAll_cons h
  obtain ⟨v1, vs1, d1, ds1, p1, q1, rfl, rfl, rfl, h1, h⟩ := trodAll_cons h
  obtain ⟨v2, vs2, d2, ds2, p2, q2, rfl, rfl, rfl, h2, h⟩ := trodAll_cons h
  obtain ⟨rfl, rfl, rfl⟩ := trodAll_nil h
  exact ⟨v0, v1, v2, d0, d1, d2, p0, p1, p2, by cases args; simp_all, rfl, by simp, h0, h1, h2⟩
theorem door_met (os : Os) (args : Array Value) : laidMetH Tryz.prog Rows.sinkTellsRow.laid ((World.doorLaid Tryz.prog 400 os).forCall (fun _ _ => 0) ⟨#[], args, []⟩).memory :=
  laidMetH_of_parts3 (fuel := 8) (laidMet_of_run' 8 (by kernel_rfl) (by kernel_rfl)) (by kernel_rfl) (by kernel_rfl)
set_option maxRecDepth 100000 in
theorem law_lifted (os : Os) (started : os.Started) (H : Type) (enc : TypeId × Value → H) :
    ReturnsInHanded {} Tryz.checked os 3 .any (fun w args => (Rows.sinkTellsSpec.pre enc Tryz.prog Tryz.f3 Rows.sinkTellsRow.domain false w args ∧ laidMetH Tryz.prog Rows.sinkTellsRow.laid w) ∧ sizedMet enc Tryz.prog Tryz.f3 (OpenSpec.ofChange Rows.sinkTellsSpec) false w args) (Rows.sinkTellsSpec.post enc Tryz.prog Tryz.f3 false true false false) := by
  refine lawTrueLaid (C := Tryz.checked) (tb := 4) df_own started (by kernel_rfl) Tryz.func3 df_laid rfl ?_ rfl Tryz.underlying4 (by kernel_rfl)
    (ChangeSpec.witness_shaped (enc := enc) (C := Tryz.checked) (os := os) (X := fun w _ => laidMetH Tryz.prog Rows.sinkTellsRow.laid w) false (World.doorLaid Tryz.prog 400 os) #[.int .i64 0, .slice none 0 0, .slice none 0 0] 8 rfl (World.shaped_of_RefB (by kernel_rfl) (by kernel_rfl)) (by kernel_rfl) (by kernel_rfl) (by kernel_rfl) (door_met os _)) ?_
  · intro ds hd
    match ds, hd with
    | [_, _, _], _ => exact ⟨rfl, rfl, rfl⟩
  · intro W base args ds p hval0 hA0 _ hL
    have hval : ∀ (j : Nat) t v, Tryz.f3.params[j]? = some t → args[j]? = some v → Value.okWide Tryz.prog W .any base t v := hval0
    have hA : DataW.TrodAll enc Tryz.prog W 0 (fun _ => true) true Tryz.f3.params.toList args.toList ds p := hA0
    rw [Tryz.params3] at hA hval
    obtain ⟨v0, v1, v2, d0, d1, d2, p0, p1, p2, rfl, rfl, rfl, h0, h1, h2⟩ := trodAll_n hA
    obtain ⟨kind, rfl, rfl, rfl, kindw⟩ := open_int Tryz.underlying3 (hval 0 3 v0 rfl rfl) h0
    obtain ⟨keyp, keyc, key, rfl, keya, keyb, s1⟩ := open_sl (α := Int) 12 Tryz.underlying22 (hval 1 22 v1 rfl rfl) (by kernel_rfl) h1
    obtain ⟨lp, lc, l, rfl, la, lb, s2⟩ := open_sl (α := OpD) 12 Tryz.underlying23 (hval 2 23 v2 rfl rfl) (by kernel_rfl) h2
    have st0 : Stable (fun M w => Sl M w lp l) := inferInstance
    have st1 : Stable (fun M w => Sl M w keyp key ∧ Sl M w lp l) := instStableAnd (fun M w => Sl M w keyp key) (fun M w => Sl M w lp l)
    have st2 : Stable (fun M w => NumI M w ∧ Sl M w keyp key ∧ Sl M w lp l) := instStableAnd (fun M w => NumI M w) (fun M w => Sl M w keyp key ∧ Sl M w lp l)
    have fin : GivesIn (fun M w => NumI M w ∧ Sl M w keyp key ∧ Sl M w lp l) Tryz.prog 3 _ (.bool true) := Tells_in (Φ := (fun M w => NumI M w ∧ Sl M w keyp key ∧ Sl M w lp l)) (p := lp) (cap := lc) (l := l) (kind := kind) (kp := keyp) (kc := keyc) (key := key) (hN := ⟨fun _ _ h => h.1⟩) (wf_I64 kindw) (hK := ⟨fun _ _ h => h.2.1⟩) (hΦ := ⟨fun _ _ h => h.2.2⟩) (Nat.le_trans la lb)
    exact fin.law ⟨la_num hL, s1, s2⟩
theorem row_holds : Rows.SinkTellsSaid :=
  OpenClaim.holds_of_wide 3 Tryz.f3 rfl rfl rfl rfl rfl rfl rfl ⟨rfl, rfl, rfl, rfl, rfl⟩ rfl rfl rfl rfl rfl (by kernel_rfl) Tryz.func3 (by kernel_rfl)
    (of_decide_eq_true (by kernel_rfl)) (by unfold Func.isWrapper; first | (rw [if_pos (by decide +kernel)]; kernel_rfl) | (rw [if_neg (by decide +kernel)]; exact ⟨rfl, rfl⟩))
    (fun os started H enc _ => law_lifted os started H enc)
theorem tells_holds : Rows.SinkTellsCardSaid :=
  Claim7.holds_tied_plain_at .later [] [.data, .data, .data, .sentinel, .sentinel] true Rows.sinkTellsCard.stood.harness true
    row_holds (fun _ h => by cases h) (by kernel_rfl) (fun _ h => by cases h) sinkTells_row_tie rfl ⟨rfl, rfl⟩ (by kernel_rfl) rfl
    (fun f fn hf hfn => by
      obtain rfl : f = 3 := Option.some.inj ((show Tryz.prog.funcNamed Rows.sinkTellsRow.func = some 3 by kernel_rfl).symm.trans hf) |>.symm
      obtain rfl : fn = Tryz.f3 := (Option.some.inj (Tryz.func3.symm.trans hfn)).symm
      exact ⟨by kernel_rfl, fun j t ht => by
        rw [Tryz.params3] at ht
        have hm := Array.mem_of_getElem? ht
        have hall : ((Tryz.f3.params.toList).all fun u => !Tryz.prog.wantsStandIn u) = true := by kernel_rfl
        rw [Tryz.params3] at hall
        exact (show Tryz.prog.wantsStandIn t = false by simpa using List.all_eq_true.1 hall t (by simpa using hm))⟩)
    (by kernel_rfl)
end Go.Proofs.YtemhapmbcbbljaaGreatDoor
end

