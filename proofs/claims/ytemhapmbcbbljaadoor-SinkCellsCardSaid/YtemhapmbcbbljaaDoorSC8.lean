/-
  A sink: what is checked ahead of a batch; taking a batch: walked.
-/
import Derived.Test.YtemhapmbcbbljaaDoorSC7
import Derived.Test.YtemhapmbcbbljaaDoorSC5
import Derived.Shelf.Strconv.AtoiAll
import Derived.Shelf.Small.Wraps
import Derived.Stop.IfaceNil
import Derived.Lib.AtoiErrMem
import Derived.Lib.AtoiAllCases
import Derived.Test.YtemhapmbcbbljaaDoorSC6
import Derived.Laws.IdiomStrings
import Derived.WalkKit
import Derived.OwnWalkIn
import Derived.TacticsInMore
import Derived.LoopNIn
import Derived.LoopIn

set_option linter.unusedVariables false
set_option linter.unusedSimpArgs false
section
namespace Go.Proofs.YtemhapmbcbbljaaDoor
open Go.Vc
theorem Ctx.rowIn {W w : World} {S : List Own} {Φ : PW} [Stable Φ] {b : Nat} {cs : List Value} {t : TypeId} (c : Ctx W w (.blk b cs t :: S) Φ) : Ctx W w S (fun M w => Φ M w ∧ RowIn b 0 cs M w) := by
  refine c.drop1.add ⟨fun hm => ?_, ?_, c.lt (b := b) (by simp [dom, Own.dom])⟩
  · have h := c.nodup
    have e : dom (.blk b cs t :: S) = b :: dom S := rfl
    rw [e] at h
    exact (List.nodup_cons.1 h).1 hm
  · exact c.row0 0 rfl
section
variable {Φ : PW} {q : KP} {st : SkD} {W w : World} {R S G : List Own} {p : Option Addr} {cap : Nat} {L : List LineD} {cs : List Value}
theorem IndexZ_in [Stable Φ] {l : List Int} [hΦ : Has Φ (fun M w => Sl M w p l)] (f : FuncId) (cp : Array Value) (g : Int → Bool) (hlen : l.length ≤ 10000000) (hf : okFun Tryd.prog f = true) (hg : ∀ x : Int, GivesIn Φ Tryd.prog f (Array.mk (.int .i64 x :: cp.toList)) (.bool (g x))) :
    GivesIn Φ Tryd.prog F.slices_IndexFunc_int_int #[.slice p l.length cap, .func (.func f) #[] cp] (.int .i64 (findI g 0 l)) := by
  refine .there (fun M w h => (hΦ.go M w h).there) fun hth => ?_
  refine gives_in (Bslices_IndexFunc_int_int_run p l.length cap f cp) fun W R => ?_
  refine exI_mk (fun n R' Φ' k => ∃ i : Nat, n = i ∧ i ≤ l.length ∧ R' = R ∧ Φ' = Φ ∧ k = l.length - i ∧ findI g 0 l = findI g i (l.drop i)) ⟨⟨R, Φ, _, inferInstance, fun w F c => c, 0, rfl, Nat.zero_le _, rfl, rfl, rfl, rfl⟩, ?_⟩
  rintro n R1 Φ1 k _ ⟨i, rfl, hi, rfl, rfl, rfl, hor⟩
  refine Br.intro (fun hlt => ?_) (fun hge => fun w F cx => ⟨?_, cx.left⟩)
  · have hlt : i < l.length := by simpa using hlt
    rw [findI_drop g l i hlt] at hor
    obtain ⟨b, o, rfl⟩ := hth (by omega)
    refine ⟨by omega, ptrK_intro b o rfl fun w F cx => ⟨l[i], by rw [Int.toNat_natCast]; exact sl_int (hΦ.go _ _ cx.phi) hlt, fun w F cx => ⟨hf, (hg l[i]).use cx fun w cx => ⟨g l[i], rfl, R1, Φ1, inferInstance, cx, Br.intro (fun h => fun w F cx => ⟨?_, cx.left⟩) (fun h => ⟨by unfold I64; omega, R1, Φ1, l.length - (i + 1), inferInstance, fun w F c => c, ⟨i + 1, rfl, hlt, rfl, rfl, rfl, ?_⟩, by omega⟩)⟩⟩⟩⟩
    · rw [hor, if_pos h]
    · rw [hor, if_neg (by rw [h]; simp)]
  · have hge : i = l.length := Nat.le_antisymm hi (by simpa using hge)
    rw [hor, hge, List.drop_length]
    rfl
theorem ContainsZ_in [Stable Φ] {l : List Int} [hΦ : Has Φ (fun M w => Sl M w p l)] (f : FuncId) (cp : Array Value) (g : Int → Bool) (hlen : l.length ≤ 10000000) (hf : okFun Tryd.prog f = true) (hg : ∀ x : Int, GivesIn Φ Tryd.prog f (Array.mk (.int .i64 x :: cp.toList)) (.bool (g x))) :
    GivesIn Φ Tryd.prog F.slices_ContainsFunc_int_int #[.slice p l.length cap, .func (.func f) #[] cp] (.bool (l.any g)) :=
  gives_in (Bslices_ContainsFunc_int_int_run p l.length cap f cp) fun W R => fun w G cx => (IndexZ_in f cp g hlen hf hg).toI cx fun w G cx => ⟨by rw [findI_any], cx.left⟩
theorem look1_in [Stable Φ] {x : LineD} {r : Option Addr} {rc kb : Nat} [hR : Has Φ (fun M w => RowIn kb 0 (x.cells r rc) M w)] (k : Int) : GivesIn Φ Tryd.prog F.sink_Sink_look_1 (Array.mk (.int .i64 k :: [.pointer (some ⟨kb, 0, none⟩)])) (.bool (decide ((x.row.length : Int) ≤ k))) :=
  gives_in (Bsink_Sink_look_1_run k kb 0) fun W R => fun w G cx => ⟨r, x.row.length, rc, (hR.go _ _ cx.phi).2.1 3 (by show 3 < 7; decide), fun w G cx => ⟨rfl, cx.left⟩⟩
set_option maxHeartbeats 2000000 in
theorem Look_q [Stable Φ] {b : Int} [hF : Has Φ (SkF q st)] (hq : SkQ q st) {n : Nat} (hs : SkS st n) (hn : n ≤ 400000) (src : Src [] Φ p L cs) (hc : Rows7 cs L) (hlen : L.length ≤ 1000000) :
    GivesQ (SkO q st) Φ Tryd.prog F.sink_Sink_look #[snk q, .int .i64 b, .slice p L.length cap] (.int .i64 (lookK st b L)) := by
  have hll := hs.lines
  have hkl := hs.key
  refine gives_q (Bsink_Sink_look_run q.sb 0 b p L.length cap) fun W R => ?_
  unfold lookK
  refine Br.intro (fun h => fun w G cx => ⟨by rw [if_pos (of_decide_eq_true h)], cx.left⟩) (fun h => ?_)
  rw [if_neg (of_decide_eq_false h)]
  refine fun w G cx => (Last_q hq).toI cx ?_
  clear cx
  refine Br.intro (fun h => fun w G cx => ⟨by rw [if_pos (of_decide_eq_true h)], cx.left⟩) (fun h => ?_)
  rw [if_neg (of_decide_eq_false h)]
  have hsrcR : ∀ {i : Nat} (hi : i < L.length) {r : Option Addr} {rc : Nat}, (cs.drop (i * 7)).take 7 = L[i].cells r rc → Has Φ (fun M w => Sl M w r L[i].row) := fun {i} hi {r rc} he => ⟨fun M w h => src_sl src hi he h⟩
  have hkey : Has Φ (fun M w => Sl M w q.kp st.key) := ⟨fun M w h => (hF.go M w h).2.1⟩
  refine exI_mk (fun iI R' Φ' k => ∃ i : Nat, iI = i ∧ i ≤ L.length ∧ R' = SkO q st ++ R ∧ Φ' = Φ ∧ k = L.length - i ∧ L.any (badK st.key b) = (L.drop i).any (badK st.key b)) ⟨⟨_, _, _, inferInstance, fun w G cx => cx, 0, rfl, Nat.zero_le _, rfl, rfl, rfl, rfl⟩, ?_⟩
  rintro iI R1 Φ1 k _ ⟨i, rfl, hi, rfl, rfl, rfl, hor⟩
  refine Br.intro (fun hlt => ?_) (fun hge => ?_)
  · have hlt : i < L.length := by have := of_decide_eq_true hlt; omega
    obtain ⟨bb, o, hp⟩ := src.ptr (by omega)
    obtain ⟨r, rc, he, h1, h2, h3⟩ := hc i hlt
    have hhi := hsrcR hlt he
    rw [List.drop_eq_getElem_cons hlt, List.any_cons] at hor
    have bad : badK st.key b L[i] = true → L.any (badK st.key b) = true := fun h => by rw [hor, h]; rfl
    have stop : L.any (badK st.key b) = true → ∀ {w : World} {G : List Own} {Ψ : PW}, [Stable Ψ] → [Has Ψ Φ1] → Ctx W w ((SkO q st ++ R) ++ G) Ψ → (Value.int .i64 1) = .int .i64 (if L.any (badK st.key b) = true then 1 else if numK ((st.lines.length : Int) + 1) L = false then 25 else 0) ∧ Ctx W w (SkO q st ++ R) Φ1 := fun h {w G Ψ} _ _ cx => ⟨by rw [if_pos h], (Ctx.has cx).left⟩
    refine ⟨by omega, ptrK_intro bb o hp fun w G cx => ⟨L[i].no, L[i].batch, L[i].time, r, L[i].row.length, rc, L[i].n, L[i].cause, L[i].why, by rw [Int.toNat_natCast]; exact src_at (G := (SkO q st ++ R) ++ G) src hp cx he, fun kb w G cx => ⟨cx.can 0 rfl (by show 0 + 7 ≤ 7; decide), fun w2 hw2 => ?_⟩⟩⟩
    have c2 := cx.puts 0 hw2 rfl
    have c3 : Ctx W w2 (.blk kb (L[i].cells r rc) 37 :: ((SkO q st ++ R) ++ G)) Φ1 := c2
    have c4 := Ctx.rowIn c3
    have hR : Has (fun M w => Φ1 M w ∧ RowIn kb 0 (L[i].cells r rc) M w) (fun M w => RowIn kb 0 (L[i].cells r rc) M w) := ⟨fun M w h => h.2⟩
    have stR : ∀ cs : List Value, Stable (fun M w => Φ1 M w ∧ RowIn kb 0 cs M w) := fun cs => inferInstance
    have stR := stR (L[i].cells r rc)
    have hcell : ∀ {w : World} {S : List Own}, Ctx W w S (fun M w => Φ1 M w ∧ RowIn kb 0 (L[i].cells r rc) M w) → ∀ j (hj : j < 7), w.cell? ⟨kb, j, none⟩ = some ((L[i].cells r rc)[j]'hj) := fun {w S} cx j hj => by
      have := cx.phi.2.2.1 j hj
      rw [Nat.zero_add] at this
      exact this
    refine ⟨SkO q st ++ R, fun M w => Φ1 M w ∧ RowIn kb 0 (L[i].cells r rc) M w, stR, c4, fun w G cx => ⟨_, _, _, sk_cell (i := 1) cx rfl, fun w G cx => ?_⟩⟩
    refine (ContainsZ_in (Φ := fun M w => Φ1 M w ∧ RowIn kb 0 (L[i].cells r rc) M w) (l := st.key) F.sink_Sink_look_1 #[.pointer (some ⟨kb, 0, none⟩)] (fun k => decide ((L[i].row.length : Int) ≤ k)) (by omega) (by kernel_rfl) (fun k => look1_in (x := L[i]) (r := r) (rc := rc) (kb := kb) k)).toB cx ?_
    clear cx c4 c3 c2
    refine fun w G cx => ⟨L[i].batch, hcell cx 1 (by decide), Br.intro (fun g1 => fun w G cx => stop (bad ?_) cx) (fun g1 => fun w G cx => ⟨L[i].n, hcell cx 4 (by decide), Br.intro (fun g2 => fun w G cx => stop (bad ?_) cx) (fun g2 => fun w G cx => ⟨r, L[i].row.length, rc, hcell cx 3 (by decide), fun w G cx => (RightRow_in (r := L[i].row)).toB cx ?_⟩)⟩)⟩
    · unfold badK; rw [g1]; rfl
    · unfold badK; rw [g2, Bool.or_true]; rfl
    clear cx
    refine Br.intro (fun g3 => fun w G cx => stop (bad ?_) cx) (fun g3 => ?_)
    · unfold badK; rw [g3, Bool.or_true]; rfl
    have hsh : (st.key.any fun k => decide ((L[i].row.length : Int) ≤ k)) = shortK st.key L[i].row := rfl
    rw [hsh]
    refine Br.intro (fun g4 => fun w G cx => stop (bad ?_) cx) (fun g4 => ?_)
    · unfold badK; rw [g4, Bool.or_true]
    have hok : badK st.key b L[i] = false := by unfold badK; rw [g1, g2, g3, g4]; rfl
    exact ⟨by unfold I64; omega, SkO q st ++ R, Φ1, L.length - (i + 1), inferInstance, fun w G cx => cx.fst, ⟨i + 1, rfl, hlt, rfl, rfl, rfl, by rw [hor, hok]; rfl⟩, by omega⟩
  have hge : i = L.length := by have := of_decide_eq_false hge; omega
  subst hge
  rw [List.drop_length] at hor
  have hor : L.any (badK st.key b) = false := hor
  rw [if_neg (by rw [hor]; simp)]
  refine exI_mk (fun iI R' Φ' k => ∃ i : Nat, iI = i ∧ i ≤ L.length ∧ R' = SkO q st ++ R ∧ Φ' = Φ1 ∧ k = L.length - i ∧ numK ((st.lines.length : Int) + 1) L = numK ((st.lines.length : Int) + 1 + i) (L.drop i)) ⟨⟨_, _, _, inferInstance, fun w G cx => cx, 0, rfl, Nat.zero_le _, rfl, rfl, rfl, by rw [Int.natCast_zero, Int.add_zero]; rfl⟩, ?_⟩
  rintro iI R1 Φ2 k _ ⟨i, rfl, hi, rfl, rfl, rfl, hnu⟩
  refine Br.intro (fun hlt => ?_) (fun hge => fun w G cx => ⟨?_, cx.left⟩)
  · have hlt : i < L.length := by have := of_decide_eq_true hlt; omega
    obtain ⟨bb, o, hp⟩ := src.ptr (by omega)
    obtain ⟨r, rc, he, h1, h2, h3⟩ := hc i hlt
    rw [List.drop_eq_getElem_cons hlt] at hnu
    have hnu : numK ((st.lines.length : Int) + 1) L = (decide (L[i].no = (st.lines.length : Int) + 1 + i) && numK ((st.lines.length : Int) + 1 + i + 1) (L.drop (i + 1))) := hnu
    refine ⟨by omega, ptrK_intro bb o hp fun w G cx => ⟨L[i].no, L[i].batch, L[i].time, r, L[i].row.length, rc, L[i].n, L[i].cause, L[i].why, by rw [Int.toNat_natCast]; exact src_at (G := (SkO q st ++ R) ++ G) src hp cx he, fun _ w G cx => ⟨_, _, _, sk_cell (i := 3) cx rfl, by unfold I64; omega, by unfold I64; omega, Br.intro (fun h => fun w G cx => ⟨?_, cx.left⟩) (fun h => ⟨by unfold I64; omega, _, Φ2, L.length - (i + 1), inferInstance, fun w G cx => cx, ⟨i + 1, rfl, hlt, rfl, rfl, rfl, ?_⟩, by omega⟩)⟩⟩⟩
    · rw [hnu, decide_eq_false (of_decide_eq_true h), Bool.false_and, if_pos rfl]
    · rw [hnu, decide_eq_true (Decidable.not_not.1 (of_decide_eq_false h)), Bool.true_and, show (st.lines.length : Int) + 1 + i + 1 = (st.lines.length : Int) + 1 + ((i + 1 : Nat) : Int) by omega]
  · have hge : i = L.length := by have := of_decide_eq_false hge; omega
    subst hge
    rw [List.drop_length] at hnu
    rw [show numK ((st.lines.length : Int) + 1) L = true from hnu]; rfl
set_option maxHeartbeats 2000000 in
theorem take_use [Stable Φ] {b : Int} [hF : Has Φ (SkF q st)] [hL : Has Φ (fun M w => Sl M w p L)] (hq : SkQ q st) {n : Nat} (hs : SkS st n) (hn : n ≤ 400000) (hlen : L.length ≤ 400000) (c : Ctx W w ((SkO q st ++ R) ++ G) Φ) {K : List Own → PW → Prop}
    (hk : ∀ q' : KP, q'.sb = q.sb → SkQ q' (takeK st b L) → Stable (fun M w => Φ M w ∧ SkF q' (takeK st b L) M w) → K (SkO q' (takeK st b L) ++ R) (fun M w => Φ M w ∧ SkF q' (takeK st b L) M w)) :
    Calls Tryd.prog F.sink_Sink_take #[snk q, .int .i64 b, .slice p L.length cap] w fun e w' => e = .returned (.tuple #[]) ∧ ∃ R' Φ', Stable Φ' ∧ Ctx W w' (R' ++ G) Φ' ∧ K R' Φ' := by
  have hll := hs.lines
  have hbl := hs.bats
  refine (Bsink_Sink_take_run q.sb 0 b p L.length cap (R := (SkO q st ++ R) ++ G) (J := fun v w' => v = .tuple #[] ∧ ∃ R' Φ', Stable Φ' ∧ Ctx W w' (R' ++ G) Φ' ∧ K R' Φ') c ?_).mono fun e w' ⟨v, he, hv, rest⟩ => ⟨by rw [he, hv], rest⟩
  clear c
  refine fun w G2 cx => ⟨_, _, _, sk_cell (q := q) (st := st) (R := R ++ G) (G := G2) (i := 2) (cx.re (by simp)) rfl, fun kb w G2 cx => ?_⟩
  have cy : Ctx W w (.blk kb [.int .i64 b] 3 :: bufZ q.bp q.bc st.bats :: (.blk q.sb (SkB q st) 53 :: bufL q.lp st.lines.length q.lc q.cs :: (R ++ G)) ++ G2) Φ := cx.perm (by simpa using List.Perm.swap _ _ _)
  obtain ⟨p8, c8, w2, hrun, cz⟩ := pushZ (by omega) cy
  refine ⟨p8, _, c8, w2, hrun, .blk q.sb (SkB q st) 53 :: bufZ p8 c8 (st.bats ++ [b]) :: bufL q.lp st.lines.length q.lc q.cs :: (R ++ G), Φ, inferInstance, Ctx.swap cz, fun w G3 cx => ⟨cx.can 0 rfl (by show 2 + 1 ≤ 6; decide), fun w3 hw3 => ?_⟩⟩
  have c5 := cx.put 0 hw3 rfl
  refine ⟨.blk q.sb [.int .i64 st.kind, .slice q.kp st.key.length q.kc, .slice p8 (st.bats ++ [b]).length c8, .slice q.lp st.lines.length q.lc, .int .i64 st.prep, .slice q.ap st.aside.length q.ac] 53 :: bufZ p8 c8 (st.bats ++ [b]) :: bufL q.lp st.lines.length q.lc q.cs :: (R ++ G), Φ, inferInstance, c5, fun w G4 cx => ⟨_, _, _, cx.get 0 rfl rfl, fun w G4 cx => ?_⟩⟩
  clear c5 cz cy
  have cy : Ctx W w (bufL q.lp st.lines.length q.lc q.cs :: .blk q.sb [.int .i64 st.kind, .slice q.kp st.key.length q.kc, .slice p8 (st.bats ++ [b]).length c8, .slice q.lp st.lines.length q.lc, .int .i64 st.prep, .slice q.ap st.aside.length q.ac] 53 :: bufZ p8 c8 (st.bats ++ [b]) :: ((R ++ G) ++ G4)) Φ := cx.perm (List.perm_middle (l₁ := [_, _]) (a := _))
  obtain ⟨p2, c2, w4, news, hrun2, cx3⟩ := Ctx.appAny (P := Tryd.prog) (ts := 30) (ty := 30) (kb := #[false, false]) (bytes := 72) (c2 := cap) (l := L) (q := p) cy (by kernel_rfl) line_one hL.go (by omega) (by omega)
  have hel : st.lines.length + L.length = (st.lines ++ L).length := by rw [List.length_append]
  rw [hel] at hrun2 cx3
  refine ⟨p2, _, c2, w4, hrun2, .blk q.sb [.int .i64 st.kind, .slice q.kp st.key.length q.kc, .slice p8 (st.bats ++ [b]).length c8, .slice q.lp st.lines.length q.lc, .int .i64 st.prep, .slice q.ap st.aside.length q.ac] 53 :: bufZ p8 c8 (st.bats ++ [b]) :: bufL p2 (st.lines ++ L).length c2 (q.cs ++ news) :: (R ++ G), (fun M w => Φ M w ∧ Elems M w (q.cs ++ news) (st.lines ++ L)), inferInstance, ?_, fun w G5 cx => ⟨cx.can 0 rfl (by show 3 + 1 ≤ 6; decide), fun w5 hw5 => ?_⟩⟩
  · exact (cx3.weak fun M w h => ⟨h.1, (hF.go M w h.1).1.append h.2⟩).perm (List.perm_middle (l₁ := [_, _]) (a := _)).symm
  have c6 := cx.put 0 hw5 rfl
  obtain ⟨q2, hq2⟩ : ∃ q2 : KP, q2 = ⟨q.sb, q.kp, q.kc, p8, c8, p2, c2, q.cs ++ news, q.ap, q.ac⟩ := ⟨_, rfl⟩
  have c7 : Ctx W w5 ((SkO q2 (takeK st b L) ++ R) ++ (G ++ G5)) (fun M w => Φ M w ∧ SkF q2 (takeK st b L) M w) := by
    rw [hq2]
    have c8 := c6.weak (Ψ := fun M w => Φ M w ∧ SkF ⟨q.sb, q.kp, q.kc, p8, c8, p2, c2, q.cs ++ news, q.ap, q.ac⟩ (takeK st b L) M w) fun M w h => ⟨h.1, h.2, (hF.go M w h.1).2⟩
    exact c8.re (by simp [takeK])
  have hq' : SkQ q2 (takeK st b L) := skq_of (S := R ++ (G ++ G5)) (c7.re (by simp)) (by rw [hq2]; exact hq.kcap) (by rw [hq2]; exact hq.acap)
  refine ⟨SkO q2 (takeK st b L) ++ (R ++ G), _, inferInstance, c7.re (by simp), fun w G6 cx => ⟨rfl, SkO q2 (takeK st b L) ++ R, _, inferInstance, (cx.left).re (by simp), hk q2 (by rw [hq2]) hq' inferInstance⟩⟩
end
end Go.Proofs.YtemhapmbcbbljaaDoor
end

section
namespace Go.Proofs.YtemhapmbcbbljaaDoor
open Go.Vc
section
variable {Φ : PW} {q : KP} {st : SkD} {W w : World} {R S G : List Own} {p : Option Addr} {cap : Nat} {L : List LineD} {cs : List Value}
theorem Look_to [Stable Φ] {b : Int} [hF : Has Φ (SkF q st)] [hL : Has Φ (fun M w => Sl M w p L)] (hq : SkQ q st) {n : Nat} (hs : SkS st n) (hn : n ≤ 400000) (hlen : L.length ≤ 400000) :
    GivesQ (SkO q st) Φ Tryd.prog F.sink_Sink_look #[snk q, .int .i64 b, .slice p L.length cap] (.int .i64 (lookK st b L)) :=
  ⟨fun W w S c => by
    have hth := (hL.go _ _ c.phi).there
    obtain ⟨cs, c1⟩ := srcOf c (hL.go _ _ c.phi)
    exact ((Look_q (Φ := fun M w => Φ M w ∧ SrcF p L cs M w) hq hs hn (src_fact (Φ := fun M w => Φ M w ∧ SrcF p L cs M w) hth fun M w h => h.2) (rows7 c1.phi.2.2) (by omega)).go W w S c1).mono fun e w' ⟨he, c2⟩ => ⟨he, c2.fst⟩⟩
set_option maxHeartbeats 2000000 in
theorem Deliver_use [Stable Φ] {b : Int} [hF : Has Φ (SkF q st)] [hL : Has Φ (fun M w => Sl M w p L)] (hq : SkQ q st) (hI : SkI st) {n : Nat} (hs : SkS st n) (hn : n ≤ 400000) (hlen : L.length ≤ 400000) (c : Ctx W w ((SkO q st ++ R) ++ G) Φ) {K : Int → List Own → PW → Prop}
    (hk : ∀ q' : KP, q'.sb = q.sb → SkQ q' (delivK st b L).2 → Stable (fun M w => Φ M w ∧ SkF q' (delivK st b L).2 M w) → K (delivK st b L).1 (SkO q' (delivK st b L).2 ++ R) (fun M w => Φ M w ∧ SkF q' (delivK st b L).2 M w)) :
    Calls Tryd.prog F.sink_Sink_Deliver #[snk q, .int .i64 b, .slice p L.length cap] w fun e w' => ∃ n, e = .returned (.int .i64 n) ∧ ∃ R' Φ', Stable Φ' ∧ Ctx W w' (R' ++ G) Φ' ∧ K n R' Φ' := by
  refine (Bsink_Sink_Deliver_run q.sb 0 b p L.length cap (R := (SkO q st ++ R) ++ G) (J := fun v w' => ∃ n, v = .int .i64 n ∧ ∃ R' Φ', Stable Φ' ∧ Ctx W w' (R' ++ G) Φ' ∧ K n R' Φ') c ?_).mono fun e w' ⟨v, he, n, hv, rest⟩ => ⟨n, by rw [he, hv], rest⟩
  clear c
  have same : ∀ (m : Int), delivK st b L = (m, st) → ∀ {w : World} {G2 : List Own}, Ctx W w ((SkO q st ++ (R ++ G)) ++ G2) Φ → ∃ n, Value.int .i64 m = .int .i64 n ∧ ∃ R' Φ', Stable Φ' ∧ Ctx W w (R' ++ G) Φ' ∧ K n R' Φ' := fun m h {w G2} cx => by
    have := hk q rfl
    rw [h] at this
    exact ⟨m, rfl, SkO q st ++ R, _, inferInstance, ((cx.left).re (by simp)).weak fun M w h => ⟨h, hF.go M w h⟩, this hq inferInstance⟩
  refine fun w G2 cx => ⟨st.kind, cx.get 0 rfl rfl, ?_⟩
  clear cx
  have e0 : delivK st b L = if st.kind = 0 then (7, st) else if hasK st b = true then (0, st) else if lookK st b L ≠ 0 then (lookK st b L, st) else (0, takeK st b L) := rfl
  refine Br.intro (fun h => fun w G2 cx => same 7 (by rw [e0, if_pos (of_decide_eq_true h)]) (G2 := G2) (cx.re (by simp))) (fun h => fun w G2 cx => ?_)
  rw [if_neg (of_decide_eq_false h)] at e0
  refine (Has_q hq hI hs hn).toB (R := R ++ G) (cx.re (by simp)) ?_
  clear cx
  refine Br.intro (fun h => fun w G2 cx => same 0 (by rw [e0, if_pos h]) cx) (fun h => fun w G2 cx => ?_)
  rw [if_neg (by rw [h]; simp)] at e0
  refine (Look_to hq hs hn hlen).toI (R := R ++ G) cx ?_
  clear cx
  refine Br.intro (fun h => fun w G2 cx => same _ (by rw [e0, if_pos (of_decide_eq_true h)]) cx) (fun h => fun w G2 cx => ?_)
  rw [if_neg (of_decide_eq_false h)] at e0
  obtain ⟨_, _, g3, _⟩ := look_ok (of_decide_eq_false h)
  refine (CloneK_sl (l := L) (by omega) fun x hx => by have := right_len (bad_right (g3 x hx)).2.2.1; omega).to cx fun p1 c1 f1 f2 st1 => ?_
  clear cx
  have hF2 : Has (fun M w => Φ M w ∧ Sl M w p1 L) (SkF q st) := ⟨fun M w h => hF.go M w h.1⟩
  refine fun w G3 cx => take_use (Φ := fun M w => Φ M w ∧ Sl M w p1 L) (R := R ++ G) (L := L) (b := b) hq hs hn hlen cx fun q1 hsb hq1 st2 => ?_
  rw [e0] at hk
  exact fun w G6 cx => ⟨0, rfl, SkO q1 (takeK st b L) ++ R, _, inferInstance, ((cx.left).re (by simp)).weak fun M w h => ⟨h.1.1, h.2⟩, hk q1 hsb hq1 inferInstance⟩
end
end Go.Proofs.YtemhapmbcbbljaaDoor
end

section
namespace Go.Proofs.YtemhapmbcbbljaaDoor
open Go.Vc
structure OpD where
  op : Int
  batch : Int
  l : List LineD
instance : Gv OpD := Gv.via (β := Int × Int × List LineD) (fun x => (x.op, x.batch, x.l)) (fun y => ⟨y.1, y.2.1, y.2.2⟩) (fun _ => rfl)
abbrev OpD.cells (x : OpD) (p : Option Addr) (c : Nat) : List Value := [.int .i64 x.op, .int .i64 x.batch, .slice p x.l.length c]
theorem op_cells {M : List Nat} {w : World} {cs : List Value} {x : OpD} (h : Gv.rep M w cs x) : ∃ p c, cs = x.cells p c ∧ x.l.length ≤ c ∧ c ≤ maxLen ∧ I64 x.op ∧ I64 x.batch ∧ Sl M w p x.l := by
  obtain ⟨_, _, rfl, ⟨rfl, h1⟩, _, _, rfl, ⟨rfl, h2⟩, ⟨p, c, rfl, g1, g2, g3⟩⟩ := h
  exact ⟨p, c, rfl, g1, g2, h1, h2, g3⟩
theorem pin_op {M : List Nat} {w : World} {b o : Nat} {cs : List (List Value)} {l : List OpD} (h : Pin b o cs l M w) {j : Nat} (hj : j < l.length) : ∃ p c, cs.getD j [] = l[j].cells p c ∧ l[j].l.length ≤ c ∧ c ≤ maxLen ∧ I64 l[j].op ∧ I64 l[j].batch := by
  obtain ⟨_, h1, h2⟩ := h j hj
  obtain ⟨p, c, e, g1, g2, g3, g4, _⟩ := op_cells h2
  exact ⟨p, c, e, g1, g2, g3, g4⟩
theorem pino_sl {M : List Nat} {w : World} {b o : Nat} {cs : List (List Value)} {l : List OpD} (h : Pin b o cs l M w) {j : Nat} (hj : j < l.length) {p : Option Addr} {c : Nat} (e : cs.getD j [] = l[j].cells p c) : Sl M w p l[j].l := by
  have := (h j hj).2.2
  rw [e] at this
  obtain ⟨p', c', e', _, _, _, _, h1⟩ := op_cells this
  simp only [OpD.cells, List.cons.injEq, Value.slice.injEq] at e'
  rw [e'.2.2.1.1]
  exact h1
theorem pino_rowAt {M : List Nat} {w : World} {b o : Nat} {cs : List (List Value)} {l : List OpD} (h : Pin b o cs l M w) {j : Nat} (hj : j < l.length) {p : Option Addr} {c : Nat} (e : cs.getD j [] = l[j].cells p c) : RowAt w b (o + j * 3) (l[j].cells p c) := by
  have := (h j hj).2.1
  rw [e] at this
  exact this
def fewV (r : List ValD) : Bool := decide ((r.length : Int) ≤ 12) && r.all fun v => decide ((v.text.size : Int) ≤ 210)
def fewR (L : List LineD) (n : Int) : Bool := decide ((L.length : Int) ≤ n) && L.all fun x => fewV x.row
def fewO (l : List OpD) (n : Int) : Bool := decide ((l.length : Int) ≤ n) && l.all fun x => fewR x.l 8
theorem fewR_len {L : List LineD} {n : Int} (h : fewR L n = true) : (L.length : Int) ≤ n := of_decide_eq_true (Bool.and_eq_true_iff.1 h).1
section
variable {Φ : PW} {W w : World} {R S G : List Own} {p r : Option Addr} {cap cap2 : Nat}
set_option maxHeartbeats 1000000 in
theorem Few43_src [Stable Φ] {L : List LineD} {cs : List Value} {n : Int} (src : Src [] Φ p L cs) (hc : Rows7 cs L) (hlen : L.length ≤ maxLen) : GivesIn Φ Tryd.prog F.errataref43_Few #[.slice p L.length cap, .int .i64 n] (.bool (fewR L n)) := by
  refine gives_in (Berrataref43_Few_run p L.length cap n) fun W R => ?_
  unfold maxLen at hlen
  refine exI_mk (fun n1 R' Φ' k => ∃ i : Nat, n1 = i ∧ i ≤ L.length ∧ R' = R ∧ Φ' = Φ ∧ k = L.length - i ∧ (L.all fun x => fewV x.row) = (L.drop i).all fun x => fewV x.row) ⟨⟨R, Φ, _, inferInstance, fun w F c => c, 0, rfl, Nat.zero_le _, rfl, rfl, rfl, rfl⟩, ?_⟩
  rintro n1 R1 Φ1 k _ ⟨i, rfl, hi, rfl, rfl, rfl, hs⟩
  refine fun w G cx => Br.intro (fun hlt => ?_) (fun hge => fun w G cx => ⟨?_, cx.left⟩)
  · have hlt2 := Bool.and_eq_true_iff.1 hlt
    have hlt : i < L.length := by have := of_decide_eq_true hlt2.1; omega
    clear cx
    obtain ⟨b, o, hp⟩ := src.ptr (by omega)
    obtain ⟨r, rc, he, h1, h2, h3⟩ := hc i hlt
    unfold maxLen at h2
    have hh : Has Φ1 (fun M w => Sl M w r L[i].row) := ⟨fun M w h => src_sl src hlt he h⟩
    rw [List.drop_eq_getElem_cons hlt, List.all_cons] at hs
    have bad : fewV L[i].row = false → fewR L n = false := fun h => by unfold fewR; rw [hs, h, Bool.false_and, Bool.and_false]
    have hrow : ∀ {w : World} {G : List Own}, Ctx W w (R1 ++ G) Φ1 → w.cell? ⟨b, o + ((i : Nat) : Int).toNat * 7 + 3, none⟩ = some (.slice r L[i].row.length rc) := fun {w G} cx => by
      rw [Int.toNat_natCast]
      exact src_at (S := []) src hp cx he 3 (by show 3 < 7; decide)
    refine ⟨by omega, ptrK_intro b o hp fun w G cx => ⟨r, L[i].row.length, rc, hrow cx, Br.intro (fun h => fun w G cx => ⟨?_, cx.left⟩) (fun h12 => ?_)⟩⟩
    · rw [bad (by unfold fewV; rw [decide_eq_false (by have := of_decide_eq_true h; omega), Bool.false_and])]
    clear cx
    have h12 := of_decide_eq_false h12
    refine exI_mk (fun n2 R' Φ' k => ∃ j : Nat, n2 = j ∧ j ≤ L[i].row.length ∧ R' = R1 ∧ Φ' = Φ1 ∧ k = L[i].row.length - j ∧ (L[i].row.all fun v => decide ((v.text.size : Int) ≤ 210)) = (L[i].row.drop j).all fun v => decide ((v.text.size : Int) ≤ 210)) ⟨⟨R1, Φ1, _, inferInstance, fun w F c => c, 0, rfl, Nat.zero_le _, rfl, rfl, rfl, rfl⟩, ?_⟩
    rintro n2 R2 Φ2 k2 _ ⟨j, rfl, hj, rfl, rfl, rfl, hs2⟩
    refine ⟨by omega, ptrK_intro b o hp fun w G cx => ⟨r, L[i].row.length, rc, hrow cx, ?_⟩⟩
    have hth := (hh.go _ _ cx.phi).there
    clear cx
    refine Br.intro (fun hlt3 => ?_) (fun hge3 => ?_)
    · have hlt3 : j < L[i].row.length := by have := of_decide_eq_true hlt3; omega
      obtain ⟨g1, o1, hr⟩ := hth (by omega)
      rw [List.drop_eq_getElem_cons hlt3, List.all_cons] at hs2
      refine ⟨by omega, ptrK_intro b o hp fun w G cx => ⟨r, L[i].row.length, rc, hrow cx, by omega, ptrK_intro g1 o1 hr fun w G cx => ⟨L[i].row[j].text, ?_, Br.intro (fun h => fun w G cx => ⟨?_, cx.left⟩) (fun h => ⟨by unfold I64; omega, R2, Φ2, L[i].row.length - (j + 1), inferInstance, fun w G cx => cx, ⟨j + 1, rfl, hlt3, rfl, rfl, rfl, ?_⟩, by omega⟩)⟩⟩⟩
      · rw [Int.toNat_natCast]
        have := hh.go _ _ cx.phi
        rw [hr] at this
        exact sl_val this hlt3 2 (by simp)
      · rw [bad (by unfold fewV; rw [hs2, decide_eq_false (p := (L[i].row[j].text.size : Int) ≤ 210) (by have := of_decide_eq_true h; omega), Bool.false_and, Bool.and_false])]
      · rw [hs2, decide_eq_true (p := (L[i].row[j].text.size : Int) ≤ 210) (by have := of_decide_eq_false h; omega), Bool.true_and]
    · have hge3 : j = L[i].row.length := by have := of_decide_eq_false hge3; omega
      rw [hge3, List.drop_length] at hs2
      have hok : fewV L[i].row = true := by unfold fewV; rw [hs2, decide_eq_true (by omega)]; rfl
      exact ⟨by unfold I64; omega, R2, Φ2, L.length - (i + 1), inferInstance, fun w G cx => cx, ⟨i + 1, rfl, hlt, rfl, rfl, rfl, by rw [hs, hok, Bool.true_and]⟩, by omega⟩
  · unfold fewR
    rcases Bool.and_eq_false_iff.1 hge with h | h
    · have hge : i = L.length := by have := of_decide_eq_false h; omega
      rw [hge, List.drop_length] at hs
      rw [hs]
      show _ = Value.bool (_ && true)
      rw [Bool.and_true]
    · have : ¬ ((L.length : Int) ≤ n) := by have := of_decide_eq_false h; omega
      rw [decide_eq_false this, Bool.false_and]
theorem Few43_in [Stable Φ] {L : List LineD} {n : Int} [hΦ : Has Φ (fun M w => Sl M w p L)] (hlen : L.length ≤ maxLen) : GivesIn Φ Tryd.prog F.errataref43_Few #[.slice p L.length cap, .int .i64 n] (.bool (fewR L n)) :=
  ⟨fun W w S c => by
    have hth := (hΦ.go _ _ c.phi).there
    obtain ⟨cs, c1⟩ := srcOf c (hΦ.go _ _ c.phi)
    exact (Few43_src (Φ := fun M w => Φ M w ∧ SrcF p L cs M w) (src_fact (Φ := fun M w => Φ M w ∧ SrcF p L cs M w) hth (fun M w h => h.2)) (rows7 c1.phi.2.2) hlen).use c1 fun w' c => ⟨rfl, c.fst⟩⟩
theorem few43_in [Stable Φ] {l : List OpD} {n : Int} {g o : Nat} {cs : List (List Value)} (hp : 0 < l.length → p = some ⟨g, o, none⟩) (hP : ∀ M w, Φ M w → Pin g o cs l M w) (hlen : l.length ≤ maxLen) : GivesIn Φ Tryd.prog F.erratalaw43_few #[.slice p l.length cap, .int .i64 n] (.bool (fewO l n)) := by
  refine ⟨fun W0 w0 S0 c0 => GivesIn.go (gives_in (Berratalaw43_few_run p l.length cap n) fun W R => ?_) W0 w0 S0 c0⟩
  have hc : ∀ j (hj : j < l.length), ∃ p c, cs.getD j [] = l[j].cells p c ∧ l[j].l.length ≤ c ∧ c ≤ maxLen ∧ I64 l[j].op ∧ I64 l[j].batch := fun j hj => pin_op (hP _ _ c0.phi) hj
  clear c0
  refine exI_mk (fun n R' Φ' k => ∃ i : Nat, n = i ∧ i ≤ l.length ∧ R' = R ∧ Φ' = Φ ∧ k = l.length - i ∧ (l.take i).all (fun x => fewR x.l 8) = true) ⟨⟨R, Φ, _, inferInstance, fun w F c => c, 0, rfl, Nat.zero_le _, rfl, rfl, rfl, rfl⟩, ?_⟩
  rintro n1 R1 Φ1 k _ ⟨i, rfl, hi, rfl, rfl, rfl, hs⟩
  refine Br.intro (fun hlt => ?_) (fun hge => fun w G cx => ⟨?_, cx.left⟩)
  · have hlt : i < l.length := by have := of_decide_eq_true hlt; omega
    obtain ⟨r, rc, he, h1, h2, _⟩ := hc i hlt
    have hh : Has Φ1 (fun M w => Sl M w r l[i].l) := ⟨fun M w h => pino_sl (hP M w h) hlt he⟩
    refine ⟨by omega, ptrK_intro g o (hp (by omega)) fun w G cx => ⟨r, l[i].l.length, rc, ?_, fun w G cx => (Few43_in (L := l[i].l) (n := 8) (by omega)).toB cx ?_⟩⟩
    · have := pino_rowAt (hP _ _ cx.phi) hlt he 2 (by simp)
      rw [Int.toNat_natCast]
      exact this
    clear cx
    refine Br.intro (fun h => fun w G cx => ⟨?_, cx.left⟩) (fun h => ⟨by unfold I64; unfold maxLen at hlen; omega, R1, Φ1, l.length - (i + 1), inferInstance, fun w G cx => cx, ⟨i + 1, rfl, hlt, rfl, rfl, rfl, ?_⟩, by omega⟩)
    · have h : fewR l[i].l 8 = false := by simpa using h
      unfold fewO
      rw [List.all_eq_false.2 ⟨l[i], List.getElem_mem _, by rw [h]; simp⟩, Bool.and_false]
    · have h : fewR l[i].l 8 = true := by simpa using h
      rw [List.take_succ_eq_append_getElem hlt, List.all_append, hs]
      simp [h]
  · have hge : i = l.length := by have := of_decide_eq_false hge; omega
    subst hge
    rw [List.take_length] at hs
    unfold fewO
    rw [hs, Bool.and_true]
end
def sameL (x y : LineD) : Bool := decide (x.no = y.no) && decide (x.batch = y.batch) && decide (x.time = y.time) && decide (x.n = y.n) && decide (x.cause = y.cause) && decide (x.why = y.why) && decide (cmpR x.row y.row = 0)
theorem sameL_refl (x : LineD) : sameL x x = true := by unfold sameL; simp [cmpR_cmp.refl]
theorem sameL_eq {x y : LineD} (h : sameL x y = true) : x = y := by
  unfold sameL at h
  simp only [Bool.and_eq_true, decide_eq_true_eq] at h
  obtain ⟨⟨⟨⟨⟨⟨h1, h2⟩, h3⟩, h4⟩, h5⟩, h6⟩, h7⟩ := h
  have h7 := (cmpR_cmp.eq _ _).1 h7
  cases x; cases y
  simp_all
instance : DecidableEq LineD := fun x y => decidable_of_iff (sameL x y = true) ⟨sameL_eq, fun h => h ▸ sameL_refl x⟩
section
variable {Φ : PW} {W w : World} {R S G : List Own} {p r : Option Addr} {cap cap2 : Nat}
end
end Go.Proofs.YtemhapmbcbbljaaDoor
end

section
namespace Go.Proofs.YtemhapmbcbbljaaDoor
open Go.Vc
def PrepI (s : SkD) : Prop := s.prep ≠ 0 → s.kind = 0 ∧ lastK s < s.prep
theorem PrepI.ok {s : SkD} (h : PrepI s) : PrepOk s := fun h0 => (h h0).2
theorem prep_cases (s : SkD) (b : Int) (L : List LineD) : (prepK s b L).2 = s ∧ ((prepK s b L).1 = 0 → hasK s b = true) ∨ s.kind = 0 ∧ hasK s b = false ∧ ¬ lookK s b L ≠ 0 ∧ prepK s b L = (0, { s with prep := b, aside := L }) := by
  unfold prepK
  split
  · exact .inl ⟨rfl, fun h => by simp at h⟩
  split
  · rename_i h; exact .inl ⟨rfl, fun _ => h⟩
  split
  · rename_i h; exact .inl ⟨rfl, fun h2 => absurd h2 h⟩
  rename_i h1 h2 h3
  exact .inr ⟨Decidable.not_not.1 h1, by simpa using h2, h3, rfl⟩
theorem comm_cases (s : SkD) (b : Int) : (commK s b).2 = s ∧ ((commK s b).1 = 0 → hasK s b = true) ∨ s.kind = 0 ∧ hasK s b = false ∧ 1 ≤ b ∧ b = s.prep ∧ commK s b = (0, { takeK s b s.aside with prep := 0, aside := [] }) := by
  unfold commK
  split
  · exact .inl ⟨rfl, fun h => by simp at h⟩
  split
  · rename_i h; exact .inl ⟨rfl, fun _ => h⟩
  split
  · rename_i h; exact .inl ⟨rfl, fun h2 => by simp at h2⟩
  rename_i h1 h2 h3
  simp only [Bool.or_eq_true, decide_eq_true_eq, not_or, Int.not_lt, ne_eq, Decidable.not_not] at h3
  exact .inr ⟨Decidable.not_not.1 h1, by simpa using h2, h3.1, h3.2, rfl⟩
theorem abort_cases (s : SkD) (b : Int) : (abortK s b).2 = s ∧ (abortK s b).1 ≠ 0 ∨ s.kind = 0 ∧ 1 ≤ b ∧ b = s.prep ∧ abortK s b = (0, { s with prep := 0, aside := [] }) := by
  unfold abortK
  split
  · exact .inl ⟨rfl, by simp⟩
  split
  · exact .inl ⟨rfl, by simp⟩
  split
  · exact .inl ⟨rfl, by simp⟩
  rename_i h1 h2 h3
  simp only [Bool.or_eq_true, decide_eq_true_eq, not_or, Int.not_lt, ne_eq, Decidable.not_not] at h3
  exact .inr ⟨Decidable.not_not.1 h1, h3.1, h3.2, rfl⟩
theorem deliv_cases (s : SkD) (b : Int) (L : List LineD) : (delivK s b L).2 = s ∧ ((delivK s b L).1 = 0 → s.kind ≠ 0 ∧ hasK s b = true) ∨ s.kind ≠ 0 ∧ hasK s b = false ∧ ¬ lookK s b L ≠ 0 ∧ delivK s b L = (0, takeK s b L) := by
  unfold delivK
  split
  · exact .inl ⟨rfl, fun h => by simp at h⟩
  rename_i h0
  split
  · rename_i h; exact .inl ⟨rfl, fun _ => ⟨h0, h⟩⟩
  split
  · rename_i h; exact .inl ⟨rfl, fun h2 => absurd h2 h⟩
  rename_i h2 h3
  exact .inr ⟨h0, by simpa using h2, h3, rfl⟩
theorem prep_p {s : SkD} (hp : PrepI s) (b : Int) (L : List LineD) : PrepI (prepK s b L).2 := by
  rcases prep_cases s b L with ⟨h, _⟩ | ⟨h0, _, h2, h⟩
  · rw [h]; exact hp
  · rw [h]; exact fun _ => ⟨h0, (look_ok h2).2.1⟩
theorem comm_p {s : SkD} (hp : PrepI s) (b : Int) : PrepI (commK s b).2 := by
  rcases comm_cases s b with ⟨h, _⟩ | ⟨_, _, _, _, h⟩
  · rw [h]; exact hp
  · rw [h]; exact fun h => absurd rfl h
theorem abort_p {s : SkD} (hp : PrepI s) (b : Int) : PrepI (abortK s b).2 := by
  rcases abort_cases s b with ⟨h, _⟩ | ⟨_, _, _, h⟩
  · rw [h]; exact hp
  · rw [h]; exact fun h => absurd rfl h
theorem deliv_p {s : SkD} (hp : PrepI s) (b : Int) (L : List LineD) : PrepI (delivK s b L).2 := by
  rcases deliv_cases s b L with ⟨h, _⟩ | ⟨h0, _, _, h⟩
  · rw [h]; exact hp
  · rw [h]; exact fun h2 => absurd (hp h2).1 h0
theorem op_i {s : SkD} (hI : SkI s) (hp : PrepI s) {b : Int} (h : I64 b) (k : Int) (L : List LineD) : SkI (opK k s b L).2 ∧ PrepI (opK k s b L).2 := by
  unfold opK
  split
  · exact ⟨prep_i hI, prep_p hp b L⟩
  split
  · exact ⟨prep_i hI, prep_p hp b L⟩
  split
  · exact ⟨comm_i hI hp.ok h, comm_p hp b⟩
  split
  · exact ⟨abort_i hI, abort_p hp b⟩
  split
  · exact ⟨hI, hp⟩
  split
  · exact ⟨hI, hp⟩
  · exact ⟨deliv_i hI h, deliv_p hp b L⟩
theorem SkS.up {s : SkD} {n m : Nat} (h : SkS s n) (hm : n ≤ m) : SkS s m := ⟨by have := h.bats; omega, by have := h.lines; omega, by have := h.aside; omega, by have := h.key; omega⟩
theorem take_s {s : SkD} {n m : Nat} (h : SkS s n) (b : Int) {L : List LineD} (hL : L.length ≤ m) (hm : 1 ≤ m) : SkS (takeK s b L) (n + m) :=
  ⟨by show (s.bats ++ [b]).length ≤ _; rw [List.length_append, List.length_singleton]; have := h.bats; omega, by show (s.lines ++ L).length ≤ _; rw [List.length_append]; have := h.lines; omega, by show s.aside.length ≤ _; have := h.aside; omega, by show s.key.length ≤ _; have := h.key; omega⟩
theorem op_s {s : SkD} {n : Nat} (h : SkS s n) (ha : s.aside.length ≤ 8) (k b : Int) {L : List LineD} (hL : L.length ≤ 8) : SkS (opK k s b L).2 (n + 8) ∧ (opK k s b L).2.aside.length ≤ 8 := by
  have hs : SkS s (n + 8) := h.up (by omega)
  have hP : SkS (prepK s b L).2 (n + 8) ∧ (prepK s b L).2.aside.length ≤ 8 := by
    rcases prep_cases s b L with ⟨h, _⟩ | ⟨h0, _, h2, h⟩
    · rw [h]; exact ⟨hs, ha⟩
    · rw [h]; exact ⟨⟨hs.bats, hs.lines, by show L.length ≤ _; omega, hs.key⟩, hL⟩
  unfold opK
  split
  · exact hP
  split
  · exact hP
  split
  · rcases comm_cases s b with ⟨h, _⟩ | ⟨_, _, _, _, h1⟩
    · rw [h]; exact ⟨hs, ha⟩
    · rw [h1]
      have := take_s h b ha (by omega)
      exact ⟨⟨this.bats, this.lines, Nat.zero_le _, this.key⟩, Nat.zero_le _⟩
  split
  · rcases abort_cases s b with ⟨h, _⟩ | ⟨_, _, _, h⟩
    · rw [h]; exact ⟨hs, ha⟩
    · rw [h]; exact ⟨⟨hs.bats, hs.lines, Nat.zero_le _, hs.key⟩, Nat.zero_le _⟩
  split
  · exact ⟨hs, ha⟩
  split
  · exact ⟨hs, ha⟩
  · rcases deliv_cases s b L with ⟨h, _⟩ | ⟨_, _, _, h1⟩
    · rw [h]; exact ⟨hs, ha⟩
    · rw [h1]; exact ⟨take_s h b hL (by omega), ha⟩
theorem op_kind (s : SkD) (k b : Int) (L : List LineD) : (opK k s b L).2.kind = s.kind ∧ (opK k s b L).2.key = s.key := by
  have hP : (prepK s b L).2.kind = s.kind ∧ (prepK s b L).2.key = s.key := by
    rcases prep_cases s b L with ⟨h, _⟩ | ⟨_, _, _, h⟩ <;> rw [h] <;> exact ⟨rfl, rfl⟩
  unfold opK
  split
  · exact hP
  split
  · exact hP
  split
  · rcases comm_cases s b with ⟨h, _⟩ | ⟨_, _, _, _, h⟩ <;> rw [h] <;> exact ⟨rfl, rfl⟩
  split
  · rcases abort_cases s b with ⟨h, _⟩ | ⟨_, _, _, h⟩ <;> rw [h] <;> exact ⟨rfl, rfl⟩
  split
  · exact ⟨rfl, rfl⟩
  split
  · exact ⟨rfl, rfl⟩
  · rcases deliv_cases s b L with ⟨h, _⟩ | ⟨_, _, _, h⟩ <;> rw [h] <;> exact ⟨rfl, rfl⟩
inductive Hid (k : Int) (s : SkD) (b : Int) (L : List LineD) : Prop
  | prep (hk : k < 2) (hh : hasK s b = false) (e : opK k s b L = (0, { s with prep := b, aside := L }))
  | comm (hk : k = 2) (hh : hasK s b = false) (h1 : 1 ≤ b) (hb : b = s.prep) (e : opK k s b L = (0, { takeK s b s.aside with prep := 0, aside := [] }))
  | abort (hk : k = 3) (hb : b = s.prep) (e : opK k s b L = (0, { s with prep := 0, aside := [] }))
  | none (e : (opK k s b L).2 = s) (h : (opK k s b L).1 = 0 → hasK s b = true) (h3 : k = 3 → (opK k s b L).1 ≠ 0)
end Go.Proofs.YtemhapmbcbbljaaDoor
end

section
namespace Go.Proofs.YtemhapmbcbbljaaDoor
open Go.Vc
structure LineW (x : LineD) : Prop where
  inn : x.In
  val : ∀ v ∈ x.row, (I64 v.kind ∧ I64 v.num) ∧ v.text.size ≤ 200
  row : x.row.length ≤ 12
theorem right_small {r : List ValD} (h : rightR r = true) : ∀ v ∈ r, v.text.size ≤ 200 := fun v hv => right_text2 h v hv
structure SkW (s : SkD) : Prop where
  kind : I64 s.kind
  prep : I64 s.prep
  key : ∀ x ∈ s.key, I64 x
  bats : ∀ x ∈ s.bats, I64 x
  lines : ∀ x ∈ s.lines, LineW x
  aside : ∀ x ∈ s.aside, LineW x
theorem GivesQ.in {Φ : PW} {P : Program} {f : FuncId} {args : Array Value} {v : Value} (h : GivesQ [] Φ P f args v) : GivesIn Φ P f args v := ⟨fun W w S c => h.go W w S c⟩
section
variable {Φ : PW} {q : KP} {st : SkD} {W w : World} {R S G : List Own} {p : Option Addr} {cap : Nat}
end
end Go.Proofs.YtemhapmbcbbljaaDoor
end

section
namespace Go.Vc
def ErrAt (g : Nat) : PW := fun M w => g ∉ M ∧ ∃ ev, w.cell? ⟨g, 0, none⟩ = some ev ∧ (ev = .nilIface ∨ ∃ te pe, ev = .iface te pe)
instance instStableErrAt (g : Nat) : Stable (ErrAt g) := ⟨fun {M M' w w'} hs ⟨h1, ev, h2, h3⟩ => by
  have hlt : g < w.heap.size := by
    rcases Nat.lt_or_ge g w.heap.size with h' | h'
    · exact h'
    · simp [World.cell?, Array.getElem?_eq_none h'] at h2
  refine ⟨fun hm => ?_, ev, hs.chg.cell h2 h1, h3⟩
  rcases hs.sub g hm with h | h
  · exact h1 h
  · omega⟩
end Go.Vc
namespace Go.Proofs.YtemhapmbcbbljaaDoor
open Go.Vc
def bs (l : List UInt8) : ByteArray := ⟨l.toArray⟩
abbrev RdS := List UInt8 × Bool
def numP (e : UInt8) (least : Int) (l : List UInt8) : Option (Int × List UInt8) :=
  let i := Lib.indexByte (l.take 21) e
  if i < 0 then none else match Lib.atoiAll (l.take i.toNat) with
    | .ok n => if Lib.itoa n = l.take i.toNat ∧ least ≤ n then some (n, l.drop (i.toNat + 1)) else none
    | _ => none
def stepN (e : UInt8) (least : Int) (st : RdS) : Int × RdS := match numP e least st.1 with
  | some (n, r) => (n, (r, st.2))
  | none => (0, ([], true))
def stepC (c : UInt8) (st : RdS) : RdS := match st.1 with
  | [] => ([], true)
  | x :: r => if x = c then (r, st.2) else ([], true)
def stepT (st : RdS) : ByteArray × RdS :=
  let a := stepN 58 0 st
  if (a.2.1.length : Int) < a.1 then (ByteArray.mk #[], ([], true)) else
    let c := stepC 44 (a.2.1.drop a.1.toNat, a.2.2)
    (if c.2 then ByteArray.mk #[] else bs (a.2.1.take a.1.toNat), c)
theorem at_of_split {l r : List UInt8} {i : Nat} {e : UInt8} (h : l.take i ++ e :: r = l) (hi : i < l.length) : l[i]? = some e := by
  have hl : (l.take i).length = i := by rw [List.length_take]; omega
  rw [← h, List.getElem?_append_right (by omega), hl, Nat.sub_self]
  rfl
theorem index_neg : ∀ (l : List UInt8) (c : UInt8), -1 ≤ Lib.indexByte l c ∧ (Lib.indexByte l c = -1 ∨ (0 ≤ Lib.indexByte l c ∧ Lib.indexByte l c < l.length ∧ l.take (Lib.indexByte l c).toNat ++ c :: l.drop ((Lib.indexByte l c).toNat + 1) = l ∧ c ∉ l.take (Lib.indexByte l c).toNat))
  | [], c => by simp [Lib.indexByte]
  | b :: l, c => by
    have ih := index_neg l c
    unfold Lib.indexByte
    by_cases hb : (b == c) = true
    · rw [if_pos hb]
      have : b = c := by simpa using hb
      subst this
      refine ⟨by omega, .inr ⟨by omega, by simp, by simp, by simp⟩⟩
    · rw [if_neg hb]
      by_cases h1 : (Lib.indexByte l c == -1) = true
      · rw [if_pos h1]; exact ⟨by omega, .inl rfl⟩
      · rw [if_neg h1]
        have h1 : Lib.indexByte l c ≠ -1 := by simpa using h1
        obtain ⟨h2, h3⟩ := ih
        rcases h3 with h3 | ⟨h3, h4, h5, h6⟩
        · exact absurd h3 h1
        · have e : (Lib.indexByte l c + 1).toNat = (Lib.indexByte l c).toNat + 1 := by omega
          refine ⟨by omega, .inr ⟨by omega, by simp; omega, ?_, ?_⟩⟩
          · rw [e, List.take_succ_cons, List.drop_succ_cons, List.cons_append, h5]
          · rw [e, List.take_succ_cons, List.mem_cons, not_or]
            exact ⟨fun e => hb (by simp [e]), h6⟩
theorem index_least {l : List UInt8} {c : UInt8} {a r : List UInt8} (hl : l = a ++ c :: r) (hc : c ∉ a) : Lib.indexByte l c = a.length := by
  subst hl
  induction a with
  | nil => simp [Lib.indexByte]
  | cons b a ih =>
    have hb : b ≠ c := fun e => hc (by simp [e])
    have ih := ih fun h => hc (by simp [h])
    rw [List.cons_append]
    unfold Lib.indexByte
    rw [if_neg (by simpa using hb), if_neg (by rw [ih]; simp), ih]
    simp
theorem digits_chars : ∀ (u : Nat), ∀ c ∈ Lib.decDigits u, 48 ≤ c.toNat ∧ c.toNat ≤ 57 := by
  intro u
  induction u using Nat.strongRecOn with
  | _ u ih =>
    intro c hc
    rw [Lib.decDigits] at hc
    split at hc
    · rename_i h
      rw [List.mem_singleton] at hc
      subst hc
      have : (UInt8.ofNat (48 + u)).toNat = 48 + u := by simp; omega
      omega
    · rename_i h
      rcases List.mem_append.1 hc with hc | hc
      · exact ih (u / 10) (by omega) c hc
      · rw [List.mem_singleton] at hc
        subst hc
        have : (UInt8.ofNat (48 + u % 10)).toNat = 48 + u % 10 := by simp; omega
        omega
theorem itoa_chars {n : Int} {c : UInt8} (h : c ∈ Lib.itoa n) : c.toNat = 45 ∨ 48 ≤ c.toNat ∧ c.toNat ≤ 57 := by
  unfold Lib.itoa at h
  split at h
  · rcases List.mem_cons.1 h with rfl | h
    · left; rfl
    · right; exact digits_chars _ c h
  · right; exact digits_chars _ c h
def digV (acc : Nat) (l : List UInt8) : Nat := l.foldl (fun a c => a * 10 + (c.toNat - 48)) acc
theorem digV_snoc (acc : Nat) (l : List UInt8) (c : UInt8) : digV acc (l ++ [c]) = digV acc l * 10 + (c.toNat - 48) := by simp [digV]
theorem digV_dec : ∀ u : Nat, digV 0 (Lib.decDigits u) = u := by
  intro u
  induction u using Nat.strongRecOn with
  | _ u ih =>
    rw [Lib.decDigits]
    split
    · rename_i h
      show 0 * 10 + ((UInt8.ofNat (48 + u)).toNat - 48) = u
      have : (UInt8.ofNat (48 + u)).toNat = 48 + u := by simp; omega
      omega
    · rename_i h
      rw [digV_snoc, ih (u / 10) (by omega)]
      have : (UInt8.ofNat (48 + u % 10)).toNat = 48 + u % 10 := by simp; omega
      omega
theorem digV_mono : ∀ (l : List UInt8) (acc : Nat), acc ≤ digV acc l
  | [], acc => Nat.le_refl _
  | c :: l, acc => by
    have := digV_mono l (acc * 10 + (c.toNat - 48))
    show acc ≤ digV (acc * 10 + (c.toNat - 48)) l
    omega
theorem parse_dig : ∀ (l : List UInt8) (acc : Nat), (∀ c ∈ l, 48 ≤ c.toNat ∧ c.toNat ≤ 57) → digV acc l < 18446744073709551616 → Lib.parseUint10 acc l = .ok (digV acc l)
  | [], acc, _, _ => rfl
  | c :: l, acc, hc, h => by
    have h0 := hc c (by simp)
    have hm := digV_mono l (acc * 10 + (c.toNat - 48))
    have e : digV acc (c :: l) = digV (acc * 10 + (c.toNat - 48)) l := rfl
    rw [e] at h ⊢
    unfold Lib.parseUint10
    rw [if_pos h0, if_neg (by omega), if_neg (by omega)]
    exact parse_dig l _ (fun d hd => hc d (by simp [hd])) h
theorem dec_ne (u : Nat) : Lib.decDigits u ≠ [] := by
  intro e
  have h1 := Lib.decDigits_length u
  have h2 := Lib.nDigits_pos u
  rw [e] at h1
  simp at h1
  omega
theorem mag_dec {u : Nat} (h : u < 18446744073709551616) : Lib.parseMag (Lib.decDigits u) = .ok u := by
  unfold Lib.parseMag
  rw [if_neg (dec_ne u), parse_dig _ 0 (digits_chars u) (by rw [digV_dec]; exact h), digV_dec]
theorem atoi_itoa {n : Int} (h : I64 n) : Lib.atoiAll (Lib.itoa n) = .ok n := by
  unfold I64 at h
  unfold Lib.itoa
  split
  · rename_i hn
    have hm := mag_dec (u := n.natAbs) (by omega)
    unfold Lib.atoiAll
    simp only
    rw [if_pos (.inr rfl), hm]
    simp only
    have e45 : (45 : UInt8).toNat = 45 := rfl
    rw [if_neg (by intro h; exact h.1 e45), if_neg (by intro h; omega), if_pos e45]
    congr 1
    omega
  · rename_i hn
    have hm := mag_dec (u := n.toNat) (by omega)
    obtain ⟨c, r, hcr⟩ : ∃ c r, Lib.decDigits n.toNat = c :: r := by
      cases hd : Lib.decDigits n.toNat with
      | nil => exact absurd hd (dec_ne _)
      | cons c r => exact ⟨c, r, rfl⟩
    have h0 := digits_chars n.toNat c (by rw [hcr]; simp)
    rw [hcr] at hm ⊢
    unfold Lib.atoiAll
    simp only
    rw [if_neg (by omega), hm]
    simp only
    rw [if_neg (by omega), if_neg (by omega), if_neg (by omega)]
    congr 1
    omega
theorem numP_iff {e : UInt8} (he : e.toNat = 58 ∨ e.toNat = 59 ∨ e.toNat = 91) {least : Int} {l : List UInt8} {n : Int} {r : List UInt8} : numP e least l = some (n, r) ↔ (I64 n ∧ least ≤ n) ∧ l = Lib.itoa n ++ e :: r := by
  have hne : ∀ n : Int, e ∉ Lib.itoa n := fun n h => by have := itoa_chars h; omega
  constructor
  · intro h
    unfold numP at h
    simp only at h
    split at h
    · cases h
    · rename_i hi
      split at h
      · rename_i m hm
        split at h
        · rename_i hc
          cases h
          have hb := Lib.atoiAll_bounds hm
          obtain ⟨_, h3⟩ := index_neg (l.take 21) e
          rcases h3 with h3 | ⟨h3, h4, h5, h6⟩
          · omega
          · refine ⟨⟨by unfold I64; omega, hc.2⟩, ?_⟩
            rw [hc.1]
            have hlt : (Lib.indexByte (l.take 21) e).toNat < (l.take 21).length := by omega
            have hlt2 : (Lib.indexByte (l.take 21) e).toNat < l.length := by rw [List.length_take] at hlt; omega
            have hg : l[(Lib.indexByte (l.take 21) e).toNat] = e := by
              have h7 : (l.take 21)[(Lib.indexByte (l.take 21) e).toNat]? = some e := at_of_split h5 (by omega)
              rw [List.getElem?_take_of_lt (by rw [List.length_take] at hlt; omega), List.getElem?_eq_getElem hlt2] at h7
              exact Option.some.inj h7
            conv => lhs; rw [← List.take_append_drop (Lib.indexByte (l.take 21) e).toNat l, List.drop_eq_getElem_cons hlt2, hg]
        · cases h
      · cases h
  · rintro ⟨⟨h1, h2⟩, rfl⟩
    have hlen := itoa_len h1
    have ht : (Lib.itoa n ++ e :: r).take 21 = Lib.itoa n ++ e :: r.take (20 - (Lib.itoa n).length) := by
      rw [List.take_append, List.take_of_length_le (by omega)]
      congr 1
      rw [show 21 - (Lib.itoa n).length = (20 - (Lib.itoa n).length) + 1 by omega, List.take_succ_cons]
    have hi := index_least ht (hne n)
    unfold numP
    simp only
    rw [hi, if_neg (by omega), Int.toNat_natCast, List.take_left', atoi_itoa h1]
    · simp only
      rw [if_pos ⟨by simp, h2⟩]
      congr 2
      rw [List.drop_append, List.drop_of_length_le (by omega), List.nil_append, show (Lib.itoa n).length + 1 - (Lib.itoa n).length = 1 by omega]
      rfl
    · rfl
section
variable {W w : World} {R G S : List Own} {Φ : PW} {b : Nat} {st : RdS}
theorem stepN_some {e : UInt8} {least n : Int} {r : List UInt8} (h : numP e least st.1 = some (n, r)) : stepN e least st = (n, (r, st.2)) := by unfold stepN; rw [h]
def rdInt (st : RdS) : Int × RdS := stepN 59 (-9223372036854775808) st
def rdNat (st : RdS) : Int × RdS := stepN 59 0 st
def rdDone (st : RdS) : Bool := !st.2 && decide (st.1 = [])
end
end Go.Proofs.YtemhapmbcbbljaaDoor
end

section
namespace Go.Proofs.YtemhapmbcbbljaaDoor
open Go.Vc
def stepV (st : RdS) : ValD × RdS := (⟨(rdInt st).1, (rdInt (rdInt st).2).1, (stepT (rdInt (rdInt st).2).2).1⟩, (stepT (rdInt (rdInt st).2).2).2)
def rowLoop : Nat → RdS → List ValD → Option (List ValD × RdS)
  | 0, st, acc => some (acc, st)
  | n + 1, st, acc => if st.1 = [] then none else rowLoop n (stepV st).2 (acc ++ [(stepV st).1])
def readRowP (l : List UInt8) : Option (List ValD) := match rowLoop (rdNat (l, false)).1.toNat (rdNat (l, false)).2 [] with
  | some (acc, st) => if rdDone st then some acc else none
  | none => none
theorem num_read {e : UInt8} (he : e.toNat = 58 ∨ e.toNat = 59 ∨ e.toNat = 91) {least n : Int} {r : List UInt8} {bad : Bool} (h : I64 n) (h2 : least ≤ n) : stepN e least (Lib.itoa n ++ e :: r, bad) = (n, (r, bad)) :=
  stepN_some (st := (Lib.itoa n ++ e :: r, bad)) ((numP_iff he).2 ⟨⟨h, h2⟩, rfl⟩)
theorem intB_list (n : Int) : (intB n).data.toList = Lib.itoa n ++ [59] := by
  unfold intB numB
  rw [ByteArray.data_append, Array.toList_append]
theorem int_read {n : Int} {r : List UInt8} {bad : Bool} (h : I64 n) : rdInt ((intB n).data.toList ++ r, bad) = (n, (r, bad)) := by
  rw [intB_list, List.append_assoc]
  exact num_read (.inr (.inl rfl)) h h.1
theorem nat_read {n : Nat} {r : List UInt8} {bad : Bool} (h : (n : Int) ≤ 9223372036854775807) : rdNat ((natB n).data.toList ++ r, bad) = ((n : Int), (r, bad)) := by
  unfold natB
  rw [if_neg (by omega), intB_list, List.append_assoc]
  exact num_read (.inr (.inl rfl)) (by unfold I64; omega) (by omega)
theorem textB_list (s : ByteArray) : (textB s).data.toList = Lib.itoa s.size ++ 58 :: (s.data.toList ++ [44]) := by
  unfold textB numB
  simp [ByteArray.data_append]
theorem text_read {s : ByteArray} {r : List UInt8} (h : s.size ≤ 9223372036854775807) : stepT ((textB s).data.toList ++ r, false) = (s, (r, false)) := by
  have e1 : stepN 58 0 ((textB s).data.toList ++ r, false) = ((s.size : Int), (s.data.toList ++ 44 :: r, false)) := by
    rw [textB_list, List.append_assoc, List.cons_append, List.append_assoc]
    exact num_read (.inl rfl) (by unfold I64; omega) (by omega)
  unfold stepT
  simp only [e1]
  have hl : s.data.toList.length = s.size := list_size s
  rw [if_neg (by rw [List.length_append, List.length_cons, hl]; omega), Int.toNat_natCast, List.drop_left' hl, List.take_left' hl]
  rfl
theorem val_read {v : ValD} {r : List UInt8} (h1 : I64 v.kind) (h2 : I64 v.num) (h3 : v.text.size ≤ 9223372036854775807) : stepV ((valB v).data.toList ++ r, false) = (v, (r, false)) := by
  have e : (valB v).data.toList ++ r = (intB v.kind).data.toList ++ ((intB v.num).data.toList ++ ((textB v.text).data.toList ++ r)) := by
    unfold valB
    simp [ByteArray.data_append]
  unfold stepV
  rw [e, int_read h1]
  simp only
  rw [int_read h2]
  simp only
  rw [text_read h3]
theorem valB_pos (v : ValD) (h : I64 v.kind) : (valB v).data.toList ≠ [] := fun e => by
  have h1 := intB_size h
  have h2 := congrArg List.length e
  rw [list_size] at h2
  unfold valB at h2
  rw [size_app, size_app, List.length_nil] at h2
  omega
def FitV (v : ValD) : Prop := (I64 v.kind ∧ I64 v.num) ∧ v.text.size ≤ 9223372036854775807
theorem vals_read : ∀ (r : List ValD) (acc : List ValD) (t : List UInt8), (∀ v ∈ r, FitV v) → rowLoop r.length (valsL r ++ t, false) acc = some (acc ++ r, (t, false))
  | [], acc, t, _ => by simp [rowLoop, valsL]
  | v :: r, acc, t, h => by
    obtain ⟨⟨h1, h2⟩, h3⟩ := h v (by simp)
    have e : valsL (v :: r) ++ t = (valB v).data.toList ++ (valsL r ++ t) := by simp [valsL]
    have hp := valB_pos v h1
    rw [e, List.length_cons, rowLoop, if_neg (by intro e; exact hp (List.append_eq_nil_iff.1 e).1), val_read h1 h2 h3]
    simp only
    rw [vals_read r _ t fun u hu => h u (by simp [hu]), List.append_assoc]
    rfl
theorem row_read {r : List ValD} (h : ∀ v ∈ r, FitV v) (hl : r.length ≤ 9223372036854775807) : readRowP (rowL r) = some r := by
  have h1 := vals_read r [] [] h
  rw [List.append_nil, List.nil_append] at h1
  unfold readRowP rowL
  rw [nat_read (by omega)]
  simp only [Int.toNat_natCast]
  rw [h1]
  rfl
section
variable {W w : World} {R G S : List Own} {Φ : PW} {b : Nat} {st : RdS}
end
end Go.Proofs.YtemhapmbcbbljaaDoor
end

section
namespace Go.Proofs.YtemhapmbcbbljaaDoor
open Go.Vc
def rdL (st : RdS) (nx no : Int) (r : List ValD) : LineD × RdS :=
  (⟨nx, no, (rdInt st).1, r, (rdInt (stepT (rdInt st).2).2).1, (rdInt (rdInt (stepT (rdInt st).2).2).2).1, (rdInt (rdInt (rdInt (stepT (rdInt st).2).2).2).2).1⟩, (rdInt (rdInt (rdInt (stepT (rdInt st).2).2).2).2).2)
def lineR (nx no : Int) (st : RdS) : Option (LineD × RdS) := (readRowP (stepT (rdInt st).2).1.data.toList).map (rdL st nx no)
attribute [irreducible] lineR
inductive MadeK (kind : Int) (key : List Int) : List Int → List LineD → Prop
  | nil : MadeK kind key [] []
  | take {bats : List Int} {lines L : List LineD} {b : Int} : MadeK kind key bats lines → lookK ⟨kind, key, bats, lines, 0, []⟩ b L = 0 → MadeK kind key (bats ++ [b]) (lines ++ L)
theorem look_same (s : SkD) (b : Int) (L : List LineD) : lookK ⟨s.kind, s.key, s.bats, s.lines, 0, []⟩ b L = lookK s b L := rfl
structure SkR (s : SkD) : Prop where
  ok : newOk s.kind s.key = true
  made : MadeK s.kind s.key s.bats s.lines
  prep : s.prep ≠ 0 → s.kind = 0 ∧ hasK s s.prep = false ∧ lookK s s.prep s.aside = 0
  none : s.prep = 0 → s.aside = []
theorem new_r {kind : Int} {key : List Int} (h : newOk kind key = true) : SkR (newK kind key) := ⟨h, .nil, fun h => absurd rfl h, fun _ => rfl⟩
theorem op_r {s : SkD} (h : SkR s) (k b : Int) (L : List LineD) : SkR (opK k s b L).2 := by
  have hP : SkR (prepK s b L).2 := by
    rcases prep_cases s b L with ⟨e, _⟩ | ⟨h0, h1, h2, e⟩
    · rw [e]; exact h
    · rw [e]
      have h3 := (look_ok h2).1
      exact ⟨h.ok, h.made, fun _ => ⟨h0, h1, Decidable.not_not.1 h2⟩, fun e => by have : b = 0 := e; omega⟩
  unfold opK
  split
  · exact hP
  split
  · exact hP
  split
  · rcases comm_cases s b with ⟨e, _⟩ | ⟨h0, h1, h2, h3, e⟩
    · rw [e]; exact h
    · rw [e]
      have hp := (h.prep (by omega)).2.2
      rw [← h3] at hp
      exact ⟨h.ok, .take h.made ((look_same s b s.aside).trans hp), fun e => absurd rfl e, fun _ => rfl⟩
  split
  · rcases abort_cases s b with ⟨e, _⟩ | ⟨h0, _, _, e⟩
    · rw [e]; exact h
    · rw [e]; exact ⟨h.ok, h.made, fun e => absurd rfl e, fun _ => rfl⟩
  split
  · exact h
  split
  · exact h
  · rcases deliv_cases s b L with ⟨e, _⟩ | ⟨h0, h1, h2, e⟩
    · rw [e]; exact h
    · rw [e]
      exact ⟨h.ok, .take h.made ((look_same s b L).trans (Decidable.not_not.1 h2)), fun e => absurd (h.prep e).1 h0, h.none⟩
end Go.Proofs.YtemhapmbcbbljaaDoor
end

section

end

section
namespace Go.Proofs.YtemhapmbcbbljaaDoor
open Go.Vc
section
variable {W w : World} {R G S : List Own} {Φ : PW} {b : Nat} {st : RdS}
theorem pushK {PS : PW} [Stable PS] {op : Option Addr} {oc : Nat} {ds : List Value} {o : List LineD} {x : LineD} {a : Option Addr} {ac kb : Nat} (hx : ∀ M w, PS M w → Gv.rep M w (x.cells a ac) x) (ho : o.length < 10000000)
    (cx : Ctx W w (.blk kb (x.cells a ac) 37 :: .buf op o.length oc ds 37 7 :: R ++ G) (fun M w => PS M w ∧ Elems M w ds o)) :
    ∃ p c w', Sem.run Tryd.prog (builtin Builtin.append #[30, 30] 30 #[false, false] #[.slice op o.length oc, .slice (some ⟨kb, 0, none⟩) 1 1]) w = .ok (.value (.slice p (o ++ [x]).length c)) w' ∧ Ctx W w' (.buf p (o ++ [x]).length c (ds ++ x.cells a ac) 37 7 :: R ++ G) (fun M w => PS M w ∧ Elems M w (ds ++ x.cells a ac) (o ++ [x])) := by
  obtain ⟨p', cap', w', hrun, _, cx'⟩ := Ctx.app1 (P := Tryd.prog) (ts := 30) (ty := 30) (kb := #[false, false]) (size := 7) (bytes := 72) cx (by kernel_rfl) (by omega) rfl rfl (by omega) (by omega)
  have e : o.length + 1 = (o ++ [x]).length := by simp
  rw [e] at hrun cx'
  exact ⟨p', cap', w', hrun, cx'.weak fun M w h => ⟨h.1, h.2.snoc (hx M w h.1)⟩⟩
end
end Go.Proofs.YtemhapmbcbbljaaDoor
end

section
namespace Go.Proofs.YtemhapmbcbbljaaDoor
open Go.Vc
theorem Ctx.mid {W w : World} {A B G : List Own} {x : Own} {Φ : PW} [Stable Φ] (c : Ctx W w ((x :: (A ++ B)) ++ G) Φ) : Ctx W w ((A ++ (x :: B)) ++ G) Φ := c.perm (by simpa using (List.perm_middle (l₁ := A) (a := x) (l₂ := B ++ G)).symm)
theorem Ctx.front {W w : World} {A B G : List Own} {x : Own} {Φ : PW} [Stable Φ] (c : Ctx W w ((A ++ (x :: B)) ++ G) Φ) : Ctx W w ((x :: (A ++ B)) ++ G) Φ := c.perm (by simp)
theorem Ctx.swapU {W w : World} {A B R G : List Own} {Φ : PW} [Stable Φ] (c : Ctx W w ((A ++ (B ++ R)) ++ G) Φ) : Ctx W w ((B ++ (A ++ R)) ++ G) Φ := c.perm (by
  rw [← List.append_assoc, ← List.append_assoc B A]
  exact List.Perm.append_right _ (List.Perm.append_right _ List.perm_append_comm))
section
variable {Φ : PW} {q : KP} {st : SkD} {W w : World} {R S G : List Own} {p : Option Addr} {cap : Nat} {L : List LineD} {cs : List Value}
structure RdK (kind : Int) (key : List Int) (i n m : Nat) (st : SkD) : Prop where
  kind : st.kind = kind
  key : st.key = key
  prep : st.prep = 0
  aside : st.aside = []
  bats : st.bats.length = i
  lines : st.lines.length + n = m
end
end Go.Proofs.YtemhapmbcbbljaaDoor
end

section
namespace Go.Proofs.YtemhapmbcbbljaaDoor
open Go.Vc
abbrev ValD.cells (x : ValD) : List Value := [.int .i64 x.kind, .int .i64 x.num, .string x.text]
theorem val_rep {M : List Nat} {w : World} {v : ValD} (h : (I64 v.kind ∧ I64 v.num) ∧ v.text.size ≤ maxLen) : Gv.rep M w v.cells v :=
  ⟨[.int .i64 v.kind], [.int .i64 v.num, .string v.text], rfl, ⟨rfl, h.1.1⟩, [.int .i64 v.num], [.string v.text], rfl, ⟨rfl, h.1.2⟩, rfl, h.2⟩
section
variable {Φ : PW} {p q : Option Addr} {cap cap2 : Nat} {r a b : List ValD} {W w : World} {R G : List Own}
end
end Go.Proofs.YtemhapmbcbbljaaDoor
end

section
namespace Go.Proofs.YtemhapmbcbbljaaDoor
open Go.Vc
abbrev vN (no : Int) : List ValD := [⟨0, no, ByteArray.mk #[]⟩]
abbrev lineD (no b : Int) : LineD := ⟨no, b, no, vN no, 1, 0, 0⟩
theorem vN_rep {M : List Nat} {w : World} {no : Int} (h : I64 no) : Gv.rep M w [.int .i64 0, .int .i64 no, .string (ByteArray.mk #[])] (⟨0, no, ByteArray.mk #[]⟩ : ValD) := val_rep (v := ⟨0, no, ByteArray.mk #[]⟩) ⟨⟨by show I64 0; unfold I64; decide, h⟩, by show (ByteArray.mk #[]).size ≤ maxLen; decide⟩
theorem lineD_rep {M : List Nat} {w : World} {no b : Int} {p : Option Addr} {c : Nat} (h : I64 no ∧ I64 b) (hc : 1 ≤ c ∧ c ≤ maxLen) (hs : Sl M w p (vN no)) : Gv.rep M w [.int .i64 no, .int .i64 b, .int .i64 no, .slice p 1 c, .int .i64 1, .int .i64 0, .int .i64 0] (lineD no b) :=
  rep_line (x := lineD no b) hc.1 hc.2 ⟨h.1, h.2, h.1, by show I64 1; unfold I64; omega, by show I64 0; unfold I64; omega, by show I64 0; unfold I64; omega⟩ hs
theorem Ctx.swapQ {W w : World} {A B R G : List Own} {Φ : PW} [Stable Φ] (c : Ctx W w ((A ++ (B ++ R)) ++ G) Φ) : Ctx W w ((B ++ (A ++ R)) ++ G) Φ := c.perm (by
  simp only [List.append_assoc]
  rw [← List.append_assoc, ← List.append_assoc B A]
  exact List.Perm.append_right _ List.perm_append_comm)
section
variable {Φ : PW} {q : KP} {st : SkD} {W w : World} {R S G : List Own} {p : Option Addr} {cap : Nat} {L : List LineD}
theorem line_to [Stable Φ] {no b : Int} (h : I64 no) (c : Ctx W w (R ++ G) Φ) {K : Int → Int → Int → Option Addr → Nat → Nat → Int → Int → Int → List Own → PW → Prop}
    (hk : ∀ k, Stable (fun M w => Φ M w ∧ Sl M w (some ⟨k, 0, none⟩) (vN no)) → K no b no (some ⟨k, 0, none⟩) 1 1 1 0 0 R (fun M w => Φ M w ∧ Sl M w (some ⟨k, 0, none⟩) (vN no))) :
    Calls Tryd.prog F.erratalaw43_line #[.int .i64 no, .int .i64 b] w fun e w' => ∃ n1 n2 n3 p k1 k2 n4 n5 n6, e = .returned (.agg #[.int .i64 n1, .int .i64 n2, .int .i64 n3, .slice p k1 k2, .int .i64 n4, .int .i64 n5, .int .i64 n6]) ∧ ∃ R' Φ', Stable Φ' ∧ Ctx W w' (R' ++ G) Φ' ∧ K n1 n2 n3 p k1 k2 n4 n5 n6 R' Φ' := by
  refine (Berratalaw43_line_run no b (R := R ++ G) (J := fun v w' => ∃ n1 n2 n3 p k1 k2 n4 n5 n6, v = .agg #[.int .i64 n1, .int .i64 n2, .int .i64 n3, .slice p k1 k2, .int .i64 n4, .int .i64 n5, .int .i64 n6] ∧ ∃ R' Φ', Stable Φ' ∧ Ctx W w' (R' ++ G) Φ' ∧ K n1 n2 n3 p k1 k2 n4 n5 n6 R' Φ') c ?_).mono fun e w' ⟨v, he, n1, n2, n3, p, k1, k2, n4, n5, n6, hv, rest⟩ => ⟨n1, n2, n3, p, k1, k2, n4, n5, n6, by rw [he, hv], rest⟩
  clear c
  intro _ k w2 G2 cx
  obtain ⟨c2, h2⟩ := Ctx.freezeBlk (α := ValD) (l := vN no) cx (Elems.one (vN_rep h))
  have c3 := c2.add (Ψ := fun M w => Sl M w (some ⟨k, 0, none⟩) (vN no)) h2
  exact ⟨_, _, _, _, _, _, _, _, _, rfl, R, _, inferInstance, c3.left, hk k inferInstance⟩
theorem Deliver_at [Stable Φ] {b m : Int} {st' : SkD} (he : delivK st b L = (m, st')) [hF : Has Φ (SkF q st)] [hL : Has Φ (fun M w => Sl M w p L)] (hq : SkQ q st) (hI : SkI st) {n : Nat} (hs : SkS st n) (hn : n ≤ 400000) (hlen : L.length ≤ 400000) (c : Ctx W w ((SkO q st ++ R) ++ G) Φ) {K : Int → List Own → PW → Prop}
    (hk : ∀ q' : KP, q'.sb = q.sb → SkQ q' st' → Stable (fun M w => Φ M w ∧ SkF q' st' M w) → K m (SkO q' st' ++ R) (fun M w => Φ M w ∧ SkF q' st' M w)) :
    Calls Tryd.prog F.sink_Sink_Deliver #[snk q, .int .i64 b, .slice p L.length cap] w fun e w' => ∃ n, e = .returned (.int .i64 n) ∧ ∃ R' Φ', Stable Φ' ∧ Ctx W w' (R' ++ G) Φ' ∧ K n R' Φ' :=
  Deliver_use hq hI hs hn hlen c (by rw [he]; exact hk)
end
abbrev sK0 : SkD := newK 2 []
abbrev sLa : List LineD := [lineD 3 5]
abbrev sLb : List LineD := [lineD 1 3, lineD 2 3]
abbrev sKa : SkD := takeK sK0 3 sLb
abbrev sKb : SkD := takeK sKa 5 sLa
theorem s_l1 : lookK sK0 5 sLa = 25 := by decide +kernel
theorem s_l2 : lookK sK0 3 sLb = 0 := by decide +kernel
theorem s_l3 : lookK sKa 5 sLa = 0 := by decide +kernel
theorem s_l4 : lookK sKb 4 [] = 25 := by decide +kernel
theorem s_d1 : delivK sK0 5 sLa = (25, sK0) := by
  unfold delivK
  rw [if_neg (by decide), if_neg (by decide), if_pos (by rw [s_l1]; decide), s_l1]
theorem s_d2 : delivK sK0 3 sLb = (0, sKa) := by
  unfold delivK
  rw [if_neg (by decide), if_neg (by decide), if_neg (by rw [s_l2]; decide)]
theorem s_d3 : delivK sKa 5 sLa = (0, sKb) := by
  unfold delivK
  rw [if_neg (by decide), if_neg (by decide), if_neg (by rw [s_l3]; decide)]
theorem s_d4 : delivK sKb 4 [] = (25, sKb) := by
  unfold delivK
  rw [if_neg (by decide), if_neg (by decide), if_pos (by rw [s_l4]; decide), s_l4]
theorem s_ia : SkI sKa := by
  have := deliv_i (new_i 2 []) (b := 3) (L := sLb) (by unfold I64; decide)
  rw [s_d2] at this
  exact this
theorem s_ib : SkI sKb := by
  have := deliv_i s_ia (b := 5) (L := sLa) (by unfold I64; decide)
  rw [s_d3] at this
  exact this
theorem s_s0 : SkS sK0 10 := ⟨by decide, by decide, by decide, by decide⟩
theorem s_sa : SkS sKa 10 := ⟨by decide, by decide, by decide, by decide⟩
theorem s_sb : SkS sKb 10 := ⟨by decide, by decide, by decide, by decide⟩
theorem nilZ {M : List Nat} {w : World} : Sl M w none ([] : List Int) := fun i hi => absurd hi (by simp)
theorem nilL {M : List Nat} {w : World} : Sl M w none ([] : List LineD) := fun i hi => absurd hi (by simp)
set_option maxHeartbeats 4000000 in
theorem small43_in {Φ : PW} [Stable Φ] : GivesIn Φ Tryd.prog F.erratalaw43_small #[] (.bool true) := by
  refine gives_in (Berratalaw43_small_run) fun W R => ?_
  have hz : ∀ Ψ : PW, Has Ψ (fun M w => Sl M w none ([] : List Int)) := fun Ψ => ⟨fun M w _ => nilZ⟩
  have hzl : ∀ Ψ : PW, Has Ψ (fun M w => Sl M w none ([] : List LineD)) := fun Ψ => ⟨fun M w _ => nilL⟩
  refine fun w G cx => New_to (hΦ := hz _) (key := []) (kind := 2) (by decide) cx (fun h => absurd h (by decide)) fun q1 _ hq1 st1 => ?_
  clear cx
  refine fun w G cx => New_to (hΦ := hz _) (key := []) (kind := 2) (by decide) cx (fun h => absurd h (by decide)) fun q2 _ hq2 st2 => ?_
  clear cx
  refine fun w G cx => Br.intro (fun h => by cases h) (fun _ => ?_)
  refine fun w G cx => line_to (no := 3) (b := 5) (by unfold I64; decide) (Ctx.swapQ cx) fun k1 st3 => ?_
  clear cx
  intro k33 w G cx
  obtain ⟨ca, ha⟩ := Ctx.freezeBlk (α := LineD) (l := sLa) cx (Elems.one (lineD_rep (by unfold I64; decide) (by decide) cx.phi.2))
  have ca := ca.add (Ψ := fun M w => Sl M w (some ⟨k33, 0, none⟩) sLa) ha
  clear cx ha
  refine Deliver_at (q := q1) (st := sK0) (L := sLa) (b := 5) s_d1 hq1 (new_i 2 []) s_s0 (by decide) (by decide) ca fun q3 hsb3 hq3 st4 => ?_
  clear ca
  rw [← hsb3]
  refine fun w G cx => line_to (no := 1) (b := 3) (by unfold I64; decide) cx fun k2 st5 => ?_
  clear cx
  refine fun w G cx => line_to (no := 2) (b := 3) (by unfold I64; decide) cx fun k3 st6 => ?_
  clear cx
  intro k71 w G cx
  obtain ⟨ca, ha⟩ := Ctx.freezeBlk (α := LineD) (l := sLb) cx (Elems.two (cs := [.int .i64 1, .int .i64 3, .int .i64 1, .slice (some ⟨k2, 0, none⟩) 1 1, .int .i64 1, .int .i64 0, .int .i64 0]) (lineD_rep (by unfold I64; decide) (by decide) cx.phi.1.2) (lineD_rep (by unfold I64; decide) (by decide) cx.phi.2))
  have ca := ca.add (Ψ := fun M w => Sl M w (some ⟨k71, 0, none⟩) sLb) ha
  clear cx ha
  refine Deliver_at (q := q3) (st := sK0) (L := sLb) (b := 3) s_d2 hq3 (new_i 2 []) s_s0 (by decide) (by decide) ca fun q4 hsb4 hq4 st7 => ?_
  clear ca
  refine fun w G cx => line_to (no := 1) (b := 3) (by unfold I64; decide) (Ctx.swapQ cx) fun k4 st8 => ?_
  clear cx
  refine fun w G cx => line_to (no := 2) (b := 3) (by unfold I64; decide) cx fun k5 st9 => ?_
  clear cx
  intro k109 w G cx
  obtain ⟨ca, ha⟩ := Ctx.freezeBlk (α := LineD) (l := sLb) cx (Elems.two (cs := [.int .i64 1, .int .i64 3, .int .i64 1, .slice (some ⟨k4, 0, none⟩) 1 1, .int .i64 1, .int .i64 0, .int .i64 0]) (lineD_rep (by unfold I64; decide) (by decide) cx.phi.1.2) (lineD_rep (by unfold I64; decide) (by decide) cx.phi.2))
  have ca := ca.add (Ψ := fun M w => Sl M w (some ⟨k109, 0, none⟩) sLb) ha
  clear cx ha
  refine Deliver_at (q := q2) (st := sK0) (L := sLb) (b := 3) s_d2 hq2 (new_i 2 []) s_s0 (by decide) (by decide) ca fun q5 hsb5 hq5 st10 => ?_
  clear ca
  rw [← hsb5]
  refine fun w G cx => line_to (no := 3) (b := 5) (by unfold I64; decide) cx fun k6 st11 => ?_
  clear cx
  intro k132 w G cx
  obtain ⟨ca, ha⟩ := Ctx.freezeBlk (α := LineD) (l := sLa) cx (Elems.one (lineD_rep (by unfold I64; decide) (by decide) cx.phi.2))
  have ca := ca.add (Ψ := fun M w => Sl M w (some ⟨k132, 0, none⟩) sLa) ha
  clear cx ha
  refine Deliver_at (q := q5) (st := sKa) (L := sLa) (b := 5) s_d3 hq5 s_ia s_sa (by decide) (by decide) ca fun q6 hsb6 hq6 st12 => ?_
  clear ca
  rw [← hsb6]
  refine fun w G cx => Deliver_at (hL := hzl _) (q := q6) (st := sKb) (L := []) (b := 4) s_d4 hq6 s_ib s_sb (by decide) (by decide) cx fun q7 hsb7 hq7 st13 => ?_
  clear cx
  rw [← hsb7]
  refine Br.intro (fun _ => Br.intro (fun _ => Br.intro (fun _ => Br.intro (fun _ => Br.intro (fun _ => ?_) (fun h => absurd rfl (of_decide_eq_false h))) (fun h => absurd rfl (of_decide_eq_false h))) (fun h => absurd rfl (of_decide_eq_false h))) (fun h => absurd rfl (of_decide_eq_false h))) (fun h => absurd rfl (of_decide_eq_false h))
  refine fun w G cx => (Last_q hq7).toI cx ?_
  clear cx
  refine Br.intro (fun _ => ?_) (fun h => absurd (show lastK sKb = 5 by decide) (of_decide_eq_false h))
  refine fun w G cx => LinesN_q.toI cx ?_
  clear cx
  exact fun w G cx => ⟨rfl, Ctx.has (Ctx.right (S := SkO q4 sKa) (Ctx.left (Ctx.right (S := SkO q7 sKb) (cx.re (List.append_assoc _ _ _)))))⟩
end Go.Proofs.YtemhapmbcbbljaaDoor
end

section
namespace Go.Proofs.YtemhapmbcbbljaaDoor
open Go.Vc
theorem fewO_out {l : List OpD} {n : Int} (h : fewO l n = true) : (l.length : Int) ≤ n ∧ ∀ x ∈ l, x.l.length ≤ 8 := by
  unfold fewO at h
  rw [Bool.and_eq_true] at h
  exact ⟨of_decide_eq_true h.1, fun x hx => by have := fewR_len (List.all_eq_true.1 h.2 x hx); omega⟩
structure HidI (st : SkD) (i : Nat) (LL : List LineD) : Prop where
  inv : SkI st
  prep : PrepI st
  kind : st.kind = 0
  size : SkS st (8 * i)
  aside : st.aside.length ≤ 8
  last : st.prep ≠ 0 → st.aside = LL
  len : LL.length ≤ 8
section
variable {Φ : PW} {W w : World} {R S G : List Own} {p : Option Addr} {cap : Nat}
end
end Go.Proofs.YtemhapmbcbbljaaDoor
end

section
namespace Go.Proofs.YtemhapmbcbbljaaDoor
open Go.Vc
theorem op_grow {s : SkD} (h : SkR s) (k b : Int) (L : List LineD) : ∃ L', (opK k s b L).2.lines = s.lines ++ L' ∧ lastK s ≤ lastK (opK k s b L).2 ∧ (lastK (opK k s b L).2 = lastK s → L' = []) ∧ (∀ x ∈ L', x.batch = lastK (opK k s b L).2) ∧ L'.length ≤ max L.length s.aside.length := by
  have same : ∀ {t : SkD}, t.lines = s.lines → t.bats = s.bats → ∃ L', t.lines = s.lines ++ L' ∧ lastK s ≤ lastK t ∧ (lastK t = lastK s → L' = []) ∧ (∀ x ∈ L', x.batch = lastK t) ∧ L'.length ≤ max L.length s.aside.length := fun {t} h1 h2 =>
    ⟨[], by rw [h1, List.append_nil], by unfold lastK; rw [h2]; exact Int.le_refl _, fun _ => rfl, by simp, by simp⟩
  have took : ∀ {t : SkD} {c : Int} {M : List LineD}, lookK s c M = 0 → M.length ≤ max L.length s.aside.length → t.lines = s.lines ++ M → t.bats = s.bats ++ [c] → ∃ L', t.lines = s.lines ++ L' ∧ lastK s ≤ lastK t ∧ (lastK t = lastK s → L' = []) ∧ (∀ x ∈ L', x.batch = lastK t) ∧ L'.length ≤ max L.length s.aside.length := fun {t c M} hz hm hl hb => by
    obtain ⟨h1, h2, h3, _⟩ := look_ok (by rw [hz]; simp)
    have e : lastK t = c := by unfold lastK; rw [hb]; simp
    exact ⟨M, hl, by rw [e]; omega, fun h => by rw [e] at h; omega, fun x hx => by rw [e]; exact (bad_right (h3 x hx)).1, hm⟩
  have hP : ∃ L', (prepK s b L).2.lines = s.lines ++ L' ∧ lastK s ≤ lastK (prepK s b L).2 ∧ (lastK (prepK s b L).2 = lastK s → L' = []) ∧ (∀ x ∈ L', x.batch = lastK (prepK s b L).2) ∧ L'.length ≤ max L.length s.aside.length := by
    rcases prep_cases s b L with ⟨e, _⟩ | ⟨_, _, _, e⟩ <;> rw [e] <;> exact same rfl rfl
  unfold opK
  split
  · exact hP
  split
  · exact hP
  split
  · rcases comm_cases s b with ⟨e, _⟩ | ⟨h0, h1, h2, h3, e⟩
    · rw [e]; exact same rfl rfl
    · rw [e]
      have hp := (h.prep (by omega)).2.2
      rw [← h3] at hp
      exact took hp (by omega) rfl rfl
  split
  · rcases abort_cases s b with ⟨e, _⟩ | ⟨_, _, _, e⟩ <;> rw [e] <;> exact same rfl rfl
  split
  · exact same rfl rfl
  split
  · exact same rfl rfl
  · rcases deliv_cases s b L with ⟨e, _⟩ | ⟨_, _, h2, e⟩
    · rw [e]; exact same rfl rfl
    · rw [e]; exact took (Decidable.not_not.1 h2) (by omega) rfl rfl
theorem op_bats (s : SkD) (k b : Int) (L : List LineD) : (opK k s b L).2.bats.length ≤ s.bats.length + 1 := by
  have hP : (prepK s b L).2.bats.length ≤ s.bats.length + 1 := by
    rcases prep_cases s b L with ⟨e, _⟩ | ⟨_, _, _, e⟩ <;> rw [e] <;> exact Nat.le_succ _
  have take : ∀ (M : List LineD), (takeK s b M).bats.length ≤ s.bats.length + 1 := fun M => by show (s.bats ++ [b]).length ≤ _; rw [List.length_append, List.length_singleton]; omega
  unfold opK
  split
  · exact hP
  split
  · exact hP
  split
  · rcases comm_cases s b with ⟨e, _⟩ | ⟨_, _, _, _, e⟩ <;> rw [e]
    · exact Nat.le_succ _
    · exact take s.aside
  split
  · rcases abort_cases s b with ⟨e, _⟩ | ⟨_, _, _, e⟩ <;> rw [e] <;> exact Nat.le_succ _
  split
  · exact Nat.le_succ _
  split
  · exact Nat.le_succ _
  · rcases deliv_cases s b L with ⟨e, _⟩ | ⟨_, _, _, e⟩ <;> rw [e]
    · exact Nat.le_succ _
    · exact take L
theorem op_prepZ {s : SkD} (h : I64 s.prep) (k : Int) {b : Int} (hb : I64 b) (L : List LineD) : I64 (opK k s b L).2.prep := by
  have hP : I64 (prepK s b L).2.prep := by
    rcases prep_cases s b L with ⟨e, _⟩ | ⟨_, _, _, e⟩ <;> rw [e]
    · exact h
    · exact hb
  have z : I64 0 := by unfold I64; decide
  unfold opK
  split
  · exact hP
  split
  · exact hP
  split
  · rcases comm_cases s b with ⟨e, _⟩ | ⟨_, _, _, _, e⟩ <;> rw [e]
    · exact h
    · exact z
  split
  · rcases abort_cases s b with ⟨e, _⟩ | ⟨_, _, _, e⟩ <;> rw [e]
    · exact h
    · exact z
  split
  · exact h
  split
  · exact h
  · rcases deliv_cases s b L with ⟨e, _⟩ | ⟨_, _, _, e⟩ <;> rw [e] <;> exact h
structure OnceI (kind : Int) (key : List Int) (st : SkD) (i : Nat) : Prop where
  inv : SkI st
  prep : PrepI st
  made : SkR st
  size : SkS st (8 * i + 1)
  aside : st.aside.length ≤ 8
  kind : st.kind = kind
  prepZ : I64 st.prep
  key : st.key = key
  bats : st.bats.length ≤ i
  lines : st.lines.length ≤ 8 * i
theorem once0 {kind : Int} {key : List Int} (h : newOk kind key = true) (hk : key.length ≤ 20) : OnceI kind key (newK kind key) 0 :=
  ⟨new_i kind key, fun h => absurd rfl h, new_r h, ⟨by show 0 ≤ _; omega, by show 0 ≤ _; omega, by show 0 ≤ _; omega, by show key.length ≤ _; omega⟩, by show 0 ≤ 8; omega, rfl, by show I64 0; unfold I64; decide, rfl, Nat.le_refl _, Nat.le_refl _⟩
theorem op_o {kind : Int} {key : List Int} {st : SkD} {i : Nat} (h : OnceI kind key st i) (k : Int) {b : Int} (hb : I64 b) {L : List LineD} (hL : L.length ≤ 8) : OnceI kind key (opK k st b L).2 (i + 1) := by
  obtain ⟨h1, h2⟩ := op_i h.inv h.prep hb k L
  obtain ⟨h3, h4⟩ := op_s h.size h.aside k b hL
  obtain ⟨h5, h6⟩ := op_kind st k b L
  have h7 := op_bats st k b L
  have hln : (opK k st b L).2.lines.length ≤ 8 * (i + 1) := by
    obtain ⟨L', e, _, _, _, hm⟩ := op_grow h.made k b L
    have := h.lines
    have := h.aside
    rw [e, List.length_append]
    omega
  exact ⟨h1, h2, op_r h.made k b L, h3.up (by omega), h4, by rw [h5, h.kind], op_prepZ h.prepZ k hb L, by rw [h6, h.key], by have := h.bats; omega, hln⟩
end Go.Proofs.YtemhapmbcbbljaaDoor
end

section
namespace Go.Proofs.YtemhapmbcbbljaaDoor
open Go.Vc
section
variable {Φ : PW} {q : KP} {st : SkD} {W w : World} {R S G : List Own} {p : Option Addr} {cap : Nat} {L : List LineD}
end
end Go.Proofs.YtemhapmbcbbljaaDoor
end

section
namespace Go.Proofs.YtemhapmbcbbljaaDoor
open Go.Vc
end Go.Proofs.YtemhapmbcbbljaaDoor
end

section
namespace Go.Proofs.YtemhapmbcbbljaaDoor
open Go.Vc
structure RkQ (q : KP) (st : SkD) : Prop where
  bpt : 0 < st.bats.length → ∃ g, q.bp = some ⟨g, 0, none⟩
  lcap : st.lines.length ≤ q.lc ∧ q.lc ≤ maxLen
  bcap : st.bats.length ≤ q.bc ∧ q.bc ≤ maxLen
  kcap : st.key.length ≤ q.kc ∧ q.kc ≤ maxLen
  acap : st.aside.length ≤ q.ac ∧ q.ac ≤ maxLen
theorem newOk_iff (kind : Int) (key : List Int) : newOk kind key = (!(decide (kind < 0) || decide (3 ≤ kind) || decide ((0 : Int) < key.length) && decide (kind ≠ 1)) && !key.any fun k => decide (k < 0)) := by
  have hm : (0 : Int) < key.length → (decide (minZ key < 0) = key.any fun k => decide (k < 0)) := fun h => by
    have hne : key ≠ [] := fun e => by rw [e] at h; exact absurd h (by decide)
    cases ha : key.any fun k => decide (k < 0) with
    | true =>
      refine decide_eq_true ?_
      obtain ⟨x, hx, hx2⟩ := List.any_eq_true.1 ha
      have hx2 := of_decide_eq_true hx2
      by_cases h0 : 0 ≤ minZ key
      · have := (minZ_le hne 0).1 h0 x hx; omega
      · omega
    | false =>
      refine decide_eq_false ?_
      have : 0 ≤ minZ key := (minZ_le hne 0).2 fun x hx => by
        have := List.any_eq_false.1 ha x hx
        have := of_decide_eq_false (by simpa using this : decide (x < 0) = false)
        omega
      omega
  unfold newOk
  by_cases h0 : (0 : Int) < key.length
  · rw [hm h0, decide_eq_true h0]
    cases decide (kind < 0) <;> cases decide (3 ≤ kind) <;> simp
  · have hnil : key = [] := List.eq_nil_of_length_eq_zero (by omega)
    rw [hnil]
    cases decide (kind < 0) <;> cases decide (3 ≤ kind) <;> simp
section
variable {Φ : PW} {q : KP} {st : SkD} {W w : World} {R S G : List Own} {p : Option Addr} {cap : Nat} {L : List LineD} {cs : List Value}
end
end Go.Proofs.YtemhapmbcbbljaaDoor
end

section
namespace Go.Proofs.YtemhapmbcbbljaaDoor
open Go.Vc
section
variable {Φ : PW} {q : KP} {st : SkD} {W w : World} {R S G : List Own} {p : Option Addr} {cap : Nat} {L : List LineD} {cs : List Value}
end
end Go.Proofs.YtemhapmbcbbljaaDoor
end

section
namespace Go.Proofs.YtemhapmbcbbljaaDoor
open Go.Vc
section
variable {Φ : PW} {q : KP} {st : SkD} {W w : World} {R S G : List Own} {p : Option Addr} {cap : Nat} {L : List LineD} {cs : List Value}
end
end Go.Proofs.YtemhapmbcbbljaaDoor
end

section
namespace Go.Proofs.YtemhapmbcbbljaaDoor
open Go.Vc
section
variable {Φ : PW} {q : KP} {st : SkD} {W w : World} {R S G : List Own} {p : Option Addr} {cap : Nat} {L : List LineD} {cs : List Value}
end
end Go.Proofs.YtemhapmbcbbljaaDoor
end

section
namespace Go.Proofs.YtemhapmbcbbljaaDoor
open Go.Vc
theorem net_row {st : SkD} (hI : SkI st) : ∀ d ∈ netP st.lines, d.row.length ≤ 12 := fun d hd => by
  have := consP_row (P := fun r => r.length ≤ 12) (l := st.lines.map LineD.d) (fun x hx => by
    obtain ⟨y, hy, rfl⟩ := List.mem_map.1 hx
    exact right_len (hI.row y hy)) d hd
  exact this
section
variable {Φ : PW} {q : KP} {st : SkD} {W w : World} {R S G : List Own} {p : Option Addr} {cap : Nat} {L : List LineD} {cs : List Value}
set_option maxHeartbeats 2000000 in
theorem NetS_q [Stable Φ] [hF : Has Φ (SkF q st)] (hq : SkQ q st) (hI : SkI st) {n : Nat} (hs : SkS st n) (hn : n ≤ 400000) : GivesQSl (SkO q st) Φ Tryd.prog F.sink_Sink_Net #[snk q] (netP st.lines) := by
  have hll := hs.lines
  have hrow : ∀ x ∈ st.lines, x.row.length ≤ 1000000 := fun x hx => by have := right_len (hI.row x hx); omega
  refine gives_qsl (Bsink_Sink_Net_run q.sb 0) fun W R => fun w G cx => ⟨q.lp, st.lines.length, q.lc, sk_cell (i := 3) cx rfl, ?_⟩
  clear cx
  have src : Src (SkO q st ++ R) Φ q.lp st.lines q.cs := (src_sk hq fun M w h => (hF.go M w h).1).app
  obtain ⟨S, hS⟩ : ∃ S, SkO q st ++ R = S := ⟨_, rfl⟩
  obtain ⟨l, hl⟩ : ∃ l, st.lines = l := ⟨_, rfl⟩
  rw [hS] at src ⊢
  rw [hl] at src hll hrow ⊢
  refine exI_mk (fun sp sn sc iI R' Φ' k => ∃ (i : Nat) (ds : List Value), iI = i ∧ i ≤ l.length ∧ sn = ((l.take i).map LineD.d).length ∧ R' = .buf sp sn sc ds 39 3 :: S ∧ Φ' = (fun M w => Φ M w ∧ Elems M w ds ((l.take i).map LineD.d)) ∧ k = l.length - i)
    ⟨⟨.buf none 0 0 [] 39 3 :: S, fun M w => Φ M w ∧ Elems M w [] ((l.take 0).map LineD.d), _, inferInstance, fun w G cx => (cx.weak fun M w h => ⟨h, Elems.nil⟩).nobuf 39 3, 0, [], rfl, Nat.zero_le _, rfl, rfl, rfl, rfl⟩, ?_⟩
  rintro sp _ sc iI R1 Φ1 k _ ⟨i, ds, rfl, hi, rfl, rfl, rfl, rfl⟩
  have hln : ((l.take i).map LineD.d).length = i := by simp; omega
  refine Br.intro (fun hlt => ?_) (fun hge => fun w G cx => ?_)
  · have hlt : i < l.length := by have := of_decide_eq_true hlt; omega
    obtain ⟨b, o, hp⟩ := src.ptr (by omega)
    refine ⟨by omega, ptrK_intro b o hp fun w G cx => ?_⟩
    obtain ⟨r, rc, hr, he, h1, h2, h3⟩ := src_row src hp (Ctx.drop1 cx).fst hlt
    refine ⟨l[i].no, l[i].batch, l[i].time, r, l[i].row.length, rc, l[i].n, l[i].cause, l[i].why, by rw [Int.toNat_natCast]; exact hr, fun _ kb w G cx => ?_⟩
    obtain ⟨p', c', w', hrun, cx'⟩ := pushLD (x := l[i]) (PS := Φ) (fun M w h => src_sl src hlt he h) h1 h2 h3 (by omega) cx
    have htk : (l.take (i + 1)).map LineD.d = (l.take i).map LineD.d ++ [l[i].d] := by rw [List.take_succ_eq_append_getElem hlt, List.map_append]; rfl
    rw [← htk] at hrun cx'
    have hst3 : Stable (fun M w => Φ M w ∧ Elems M w (ds ++ l[i].d.cells r rc) ((l.take (i + 1)).map LineD.d)) := inferInstance
    exact ⟨p', _, c', w', hrun, _, _, hst3, cx', by unfold I64; omega, _, _, l.length - (i + 1), hst3, fun w G cx => cx, ⟨i + 1, _, by omega, hlt, rfl, rfl, rfl, rfl⟩, by omega⟩
  · have hi : i = l.length := by have := of_decide_eq_false hge; omega
    subst hi
    rw [List.take_length] at cx ⊢
    obtain ⟨cx3, hs, _⟩ := Ctx.freeze (α := DeltaD) cx.fst cx.phi.2
    have hst4 : Stable (fun M w => Φ M w ∧ Sl M w sp (l.map LineD.d)) := inferInstance
    refine (Consolidate_sl (Φ := fun M w => Φ M w ∧ Sl M w sp (l.map LineD.d)) sp sc (l.map LineD.d) (fun M w h => h.2) (by simp; omega) (fun x hx => ?_)).use (cx3.add hs) fun p3 c3 w h1 h2 cx => ⟨p3, _, c3, rfl, S, fun M w => Φ M w ∧ Sl M w p3 (netP l), inferInstance, cx.weak fun M w h => ⟨h.1.1, h.2⟩, fun w G cx => ⟨p3, c3, rfl, h1, h2, cx.left⟩⟩
    obtain ⟨y, hy, rfl⟩ := List.mem_map.1 hx
    exact hrow y hy
end
end Go.Proofs.YtemhapmbcbbljaaDoor
end

section
namespace Go.Proofs.YtemhapmbcbbljaaDoor
open Go.Vc
def v00 : ValD := ⟨0, 0, ByteArray.empty⟩
def keyR (key : List Int) (r : List ValD) : List ValD := key.map fun k => r.getD k.toNat v00
def sameK (key : List Int) (a b : List ValD) : Bool := decide (keyR key a = keyR key b)
def laterK (key : List Int) (d : DeltaD) (l : List DeltaD) : Bool := l.any fun y => !decide (y.n < 1) && sameK key d.row y.row
def liveK (key : List Int) (d : DeltaD) (l : List DeltaD) : Bool := decide (0 < d.n) && !laterK key d l
def cellsK (key : List Int) : List DeltaD → List DeltaD
  | [] => []
  | d :: l => if liveK key d l = true then d :: cellsK key l else cellsK key l
def skCells (st : SkD) : List DeltaD := if st.kind = 1 then cellsK st.key (netP st.lines) else []
def FitK (key : List Int) (r : List ValD) : Prop := ∀ k ∈ key, 0 ≤ k ∧ k < r.length
theorem cellsK_mem {key : List Int} : ∀ {l : List DeltaD} {x : DeltaD}, x ∈ cellsK key l → x ∈ l
  | [], _, h => h
  | d :: l, x, h => by
    unfold cellsK at h
    split at h
    · rcases List.mem_cons.1 h with rfl | h
      · simp
      · exact List.mem_cons_of_mem _ (cellsK_mem h)
    · exact List.mem_cons_of_mem _ (cellsK_mem h)
theorem cellsK_len (key : List Int) : ∀ l : List DeltaD, (cellsK key l).length ≤ l.length
  | [] => Nat.le_refl _
  | d :: l => by
    have := cellsK_len key l
    unfold cellsK
    split
    · rw [List.length_cons, List.length_cons]; omega
    · rw [List.length_cons]; omega
theorem val_dec (x y : ValD) : (decide (x.kind = y.kind) && (decide (x.num = y.num) && (decide (x.text = y.text) && true))) = decide (x = y) := by
  rw [Bool.eq_iff_iff]
  simp [val_ext, and_assoc]
theorem ok_nn {kind : Int} {key : List Int} (h : newOk kind key = true) : ∀ k ∈ key, 0 ≤ k := fun k hk => by
  rw [newOk_iff, Bool.and_eq_true] at h
  have h2 : (key.any fun k => decide (k < 0)) = false := by simpa using h.2
  have := List.any_eq_false.1 h2 k hk
  have := of_decide_eq_false (by simpa using this : decide (k < 0) = false)
  omega
theorem made_fit {kind : Int} {key bats : List Int} {lines : List LineD} (hk : newOk kind key = true) (h : MadeK kind key bats lines) : ∀ x ∈ lines, FitK key x.row := by
  induction h with
  | nil => intro x hx; cases hx
  | take h hz ih =>
    intro x hx
    rcases List.mem_append.1 hx with hx | hx
    · exact ih x hx
    · have h1 := (look_ok (by rw [hz]; simp)).2.2.1 x hx
      have h2 := (bad_right h1).2.2.2
      intro k hkk
      refine ⟨ok_nn hk k hkk, ?_⟩
      have h3 := List.any_eq_false.1 h2 k hkk
      have := of_decide_eq_false (by simpa using h3 : decide ((x.row.length : Int) ≤ k) = false)
      omega
theorem net_fit {st : SkD} (h : SkR st) : ∀ d ∈ netP st.lines, FitK st.key d.row := fun d hd => consP_row (P := FitK st.key) (l := st.lines.map LineD.d) (fun x hx => by
  obtain ⟨y, hy, rfl⟩ := List.mem_map.1 hx
  exact made_fit h.ok h.made y hy) d hd
section
variable {Φ : PW} {q : KP} {st : SkD} {W w : World} {R S G : List Own} {p r : Option Addr} {cap cap2 : Nat} {L : List LineD} {cs : List Value}
end
end Go.Proofs.YtemhapmbcbbljaaDoor
end

section
namespace Go.Proofs.YtemhapmbcbbljaaDoor
open Go Go.RowKit Go.Vc
attribute [local go_sem] Oper.semAt_some
abbrev dV (tm mn : Nat → Int) (pp : Nat → Option Addr) (ln cp : Nat → Nat) (j : Nat) : List Value := [.int .i64 (tm j), .slice (pp j) (ln j) (cp j), .int .i64 (mn j)]
set_option maxRecDepth 100000 in
set_option maxHeartbeats 2000000 in
theorem back_iter (kb g o n c : Nat) (hn : n ≤ c) (hc : c ≤ maxLen) (hn2 : n ≤ 1000000) (tm mn : Nat → Int) (pp : Nat → Option Addr) (ln cp : Nat → Nat) :
    Iter Tryd.prog F.slices_Backward_api_Delta_api_Delta_1 #[.pointer (some ⟨kb, 0, none⟩)] n (fun k => #[.int .i64 ((n : Int) - 1 - k), .agg #[.int .i64 (tm (n - 1 - k)), .slice (pp (n - 1 - k)) (ln (n - 1 - k)) (cp (n - 1 - k)), .int .i64 (mn (n - 1 - k))]]) (fun w => w.cell? ⟨kb, 0, none⟩ = some (.slice (some ⟨g, o, none⟩) n c) ∧ ∀ j, j < n → RowAt w g (o + j * 3) (dV tm mn pp ln cp j)) := by
  intro l J W hX hY h0
  refine callsIn_of_wp Tryd.func48 rfl trivial ?_ rfl
  simp only [Tryd.ntmps48, List.size_toArray, List.length_cons, List.length_nil, Nat.reduceAdd, Nat.reduceSub, Array.replicate_succ, Array.replicate_zero, List.push_toArray, List.append_toArray, List.nil_append, List.cons_append]
  have hcx0 := (hX _ _ h0).1
  gi_wp2
  gi_loopw [3] (fun i wr => ∃ k : Nat, k ≤ n ∧ i = .int .i64 ((n : Int) - 1 - k) ∧ J k wr)
    (fun i _ => (intOf i + 1).toNat)
  case atStart => exact ⟨0, Nat.zero_le _, by simp, h0⟩
  case round =>
    obtain ⟨k, hk, rfl, hJs⟩ := hrel
    have hcx := (hX _ _ hJs).1
    by_cases hlt : k < n
    · obtain ⟨fn, tmps, assign, body, hy, hR⟩ := hY _ _ hJs hlt
      have h8 : (0 : Int) ≤ (n : Int) - 1 - k := by omega
      have hrow := (hX _ _ hJs).2 (n - 1 - k) (by omega)
      have e0 : ((n : Int) - 1 - k).toNat = n - 1 - k := by omega
      have c0 : wr.cell? ⟨g, o + (n - 1 - k) * 3, none⟩ = some (.int .i64 (tm (n - 1 - k))) := hrow 0 (by show 0 < 3; decide)
      have c1 : wr.cell? ⟨g, o + (n - 1 - k) * 3 + 1, none⟩ = some (.slice (pp (n - 1 - k)) (ln (n - 1 - k)) (cp (n - 1 - k))) := hrow 1 (by show 1 < 3; decide)
      have c2 : wr.cell? ⟨g, o + (n - 1 - k) * 3 + 2, none⟩ = some (.int .i64 (mn (n - 1 - k))) := hrow 2 (by show 2 < 3; decide)
      gi_wp2
      refine ⟨rfl, hR.mono ?_⟩
      rintro e W3 ⟨rfl, hJ3⟩
      gi_wp2
      go_roundw
      case rel => exact ⟨k + 1, hlt, by simp; omega, hJ3⟩
      case measure => simp [intOf]; omega
    · have h8 : ¬ (0 : Int) ≤ (n : Int) - 1 - k := by omega
      obtain rfl : k = n := by omega
      gi_wp2
      go_end0
      exact ⟨⟨_, rfl⟩, hJs⟩
set_option maxRecDepth 100000 in
set_option maxHeartbeats 2000000 in
theorem back_iter0 (kb c : Nat) (p : Option Addr) (xs : Nat → Array Value) (X : World → Prop) (hX0 : ∀ w, X w → w.cell? ⟨kb, 0, none⟩ = some (.slice p 0 c)) :
    Iter Tryd.prog F.slices_Backward_api_Delta_api_Delta_1 #[.pointer (some ⟨kb, 0, none⟩)] 0 xs X := by
  intro l J W hX hY h0
  refine callsIn_of_wp Tryd.func48 rfl trivial ?_ rfl
  simp only [Tryd.ntmps48, List.size_toArray, List.length_cons, List.length_nil, Nat.reduceAdd, Nat.reduceSub, Array.replicate_succ, Array.replicate_zero, List.push_toArray, List.append_toArray, List.nil_append, List.cons_append]
  have hcx0 := hX0 _ (hX _ _ h0)
  gi_wp2
  gi_loopw [3] (fun i wr => i = .int .i64 (-1) ∧ J 0 wr) (fun _ _ => 0)
  case atStart => exact ⟨rfl, h0⟩
  case round =>
    obtain ⟨rfl, hJs⟩ := hrel
    have hcx := hX0 _ (hX _ _ hJs)
    gi_wp2
    go_end0
    exact ⟨⟨_, rfl⟩, hJs⟩
theorem back_iter' {kb g o n c : Nat} {p : Option Addr} (hp : 0 < n → p = some ⟨g, o, none⟩) (hn : n ≤ c) (hc : c ≤ maxLen) (hn2 : n ≤ 1000000) (tm mn : Nat → Int) (pp : Nat → Option Addr) (ln cp : Nat → Nat) :
    Iter Tryd.prog F.slices_Backward_api_Delta_api_Delta_1 #[.pointer (some ⟨kb, 0, none⟩)] n (fun k => #[.int .i64 ((n : Int) - 1 - k), .agg #[.int .i64 (tm (n - 1 - k)), .slice (pp (n - 1 - k)) (ln (n - 1 - k)) (cp (n - 1 - k)), .int .i64 (mn (n - 1 - k))]]) (fun w => w.cell? ⟨kb, 0, none⟩ = some (.slice p n c) ∧ ∀ j, j < n → RowAt w g (o + j * 3) (dV tm mn pp ln cp j)) := by
  rcases Nat.eq_zero_or_pos n with h | h
  · subst h
    exact back_iter0 kb c p _ _ fun w h => h.1
  · rw [hp h]
    exact back_iter kb g o n c hn hc hn2 tm mn pp ln cp
end Go.Proofs.YtemhapmbcbbljaaDoor
end

section
namespace Go.Proofs.YtemhapmbcbbljaaDoor
open Go.Vc
theorem swp_get {α : Type} {l : List α} {i j : Nat} (hi : i < l.length) (hj : j < l.length) (k : Nat) : (swp l i j)[k]? = if k = j then l[i]? else if k = i then l[j]? else l[k]? := by
  rw [swp_eq hi hj, List.getElem?_set, List.getElem?_set, List.length_set]
  by_cases h1 : k = j
  · have h1' : j = k := h1.symm
    rw [if_pos h1, if_pos h1', if_pos hj, List.getElem?_eq_getElem hi]
  · have h1' : ¬ j = k := fun e => h1 e.symm
    rw [if_neg h1, if_neg h1']
    by_cases h2 : k = i
    · have h2' : i = k := h2.symm
      rw [if_pos h2, if_pos h2', if_pos hi, List.getElem?_eq_getElem hj]
    · have h2' : ¬ i = k := fun e => h2 e.symm
      rw [if_neg h2, if_neg h2']
def revN {α : Type} (l : List α) : Nat → List α
  | 0 => l
  | i + 1 => swp (revN l i) i (l.length - 1 - i)
theorem revN_len {α : Type} (l : List α) : ∀ i, (revN l i).length = l.length
  | 0 => rfl
  | i + 1 => by unfold revN; rw [swp_len, revN_len]
theorem revN_get {α : Type} {l : List α} : ∀ (i : Nat), 2 * i ≤ l.length → ∀ k, k < l.length → (revN l i)[k]? = if k < i ∨ l.length - 1 - k < i then l[l.length - 1 - k]? else l[k]?
  | 0, _, k, hk => by rw [if_neg (by omega)]; rfl
  | i + 1, h, k, hk => by
    have ih := revN_get (l := l) i (by omega)
    have hl := revN_len l i
    have e1 : (revN l i)[i]? = l[i]? := by rw [ih i (by omega), if_neg (by omega)]
    have e2 : (revN l i)[l.length - 1 - i]? = l[l.length - 1 - i]? := by rw [ih (l.length - 1 - i) (by omega), if_neg (by omega)]
    unfold revN
    rw [swp_get (by omega) (by omega), e1, e2, ih k hk]
    by_cases h1 : k = l.length - 1 - i
    · rw [if_pos h1, if_pos (by omega), show l.length - 1 - k = i by omega]
    · rw [if_neg h1]
      by_cases h2 : k = i
      · rw [if_pos h2, if_pos (by omega), h2]
      · rw [if_neg h2]
        by_cases h3 : k < i ∨ l.length - 1 - k < i
        · rw [if_pos h3, if_pos (by omega)]
        · rw [if_neg h3, if_neg (by omega)]
theorem revN_end {α : Type} {l : List α} {i : Nat} (h1 : 2 * i ≤ l.length) (h2 : l.length ≤ 2 * i + 1) : revN l i = l.reverse := by
  apply List.ext_getElem?
  intro k
  by_cases hk : k < l.length
  · rw [revN_get i h1 k hk, List.getElem?_reverse hk]
    split
    · rfl
    · rw [show l.length - 1 - k = k by omega]
  · rw [List.getElem?_eq_none (by rw [revN_len]; omega), List.getElem?_eq_none (by rw [List.length_reverse]; omega)]
set_option maxHeartbeats 1000000 in
theorem Reverse_use {W w : World} {S : List Own} {Φ : PW} [Stable Φ] {p : Option Addr} {cap N : Nat} (es : List DE) (cx : Ctx W w (bufE p cap es :: S) Φ) (hN : N = es.length) (hlen : es.length ≤ 100000000) {K : Ending → World → Prop}
    (hK : ∀ w', Ctx W w' (bufE p cap es.reverse :: S) Φ → K (.returned (.tuple #[])) w') : Calls Tryd.prog F.slices_Reverse_api_Delta_api_Delta #[.slice p N cap] w K := by
  subst hN
  refine (Bslices_Reverse_api_Delta_api_Delta_run p es.length cap (J := fun u w' => K (.returned u) w') cx ?_).mono fun e w' ⟨v, he, hj⟩ => by rw [he]; exact hj
  have hp : 0 < es.length → ∃ g, p = some ⟨g, 0, none⟩ := fun h => e_ptr cx h
  clear cx
  refine ⟨by unfold I64; omega, ?_⟩
  refine exI_mk (fun a b R' Φ' k => ∃ i : Nat, a = i ∧ b = (es.length : Int) - 1 - i ∧ 2 * i ≤ es.length ∧ R' = bufE p cap (revN es i) :: S ∧ Φ' = Φ ∧ k = es.length - i) ⟨⟨_, Φ, _, inferInstance, fun w G cx => cx, 0, rfl, by omega, by omega, rfl, rfl, rfl⟩, ?_⟩
  rintro _ _ R1 Φ1 k _ ⟨i, rfl, rfl, hi, rfl, rfl, rfl⟩
  refine Br.intro (fun hlt => ?_) (fun hge => fun w G cx => ?_)
  · have hlt := of_decide_eq_true hlt
    have hl := revN_len es i
    obtain ⟨g, rfl⟩ := hp (by omega)
    have hnext : swp (revN es i) i (es.length - 1 - i) = revN es (i + 1) := rfl
    obtain ⟨E, hE⟩ : ∃ E, revN es i = E := ⟨_, rfl⟩
    rw [hE] at hl hnext ⊢
    obtain ⟨X, hX⟩ : ∃ X, E[i]? = some X := ⟨_, List.getElem?_eq_getElem (by omega)⟩
    obtain ⟨Y, hY⟩ : ∃ Y, E[es.length - 1 - i]? = some Y := ⟨_, List.getElem?_eq_getElem (by omega)⟩
    have na : ((i : Nat) : Int).toNat = i := Int.toNat_natCast _
    have nb : ((es.length : Int) - 1 - i).toNat = es.length - 1 - i := by omega
    refine ⟨[], fun _ _ => True, inferInstance, fun w G cx => (cx.weak fun _ _ _ => trivial).right, by omega, ptrK_intro g 0 rfl ⟨by omega, ptrK_intro g 0 rfl fun w G cx => ⟨Y.d.time, Y.p, Y.d.row.length, Y.c, Y.d.n, by rw [Nat.zero_add, nb]; exact e_row cx hY, fun w G cx => ⟨X.d.time, X.p, X.d.row.length, X.c, X.d.n, by rw [Nat.zero_add, na]; exact e_row cx hX, by omega, ptrK_intro g 0 rfl fun w G cx => ⟨by rw [Nat.zero_add, na]; exact e_can cx (by omega), fun w' hw' => ?_⟩⟩⟩⟩⟩
    rw [Nat.zero_add, na] at hw'
    refine ⟨bufE (some ⟨g, 0, none⟩) cap (E.set i Y) :: S, Φ1, inferInstance, e_swap hX hY cx hw', fun w G cx => (cx.weak fun _ _ _ => trivial).right, by omega, ptrK_intro g 0 rfl fun w G cx => ⟨by rw [Nat.zero_add, nb]; exact e_can cx (by rw [List.length_set]; omega), fun w' hw' => ?_⟩⟩
    rw [Nat.zero_add, nb] at hw'
    have cx2 := e_swap2 hX hY cx hw'
    rw [hnext] at cx2
    exact ⟨bufE (some ⟨g, 0, none⟩) cap (revN es (i + 1)) :: S, Φ1, inferInstance, cx2, fun w G cx => (cx.weak fun _ _ _ => trivial).right, by unfold I64; omega, by unfold I64; omega, _, Φ1, es.length - (i + 1), inferInstance, fun w G cx => cx, ⟨i + 1, by omega, by omega, by omega, rfl, rfl, rfl⟩, by omega⟩
  · have hge := of_decide_eq_false hge
    rw [revN_end hi (by omega)] at cx
    exact hK w cx.left
theorem seenTy : GTy Tryd.prog 63 9 4 Value.string Value.bool false := .ofStr (by kernel_rfl) (by kernel_rfl) (fun b x w => by kernel_rfl) (fun w => by kernel_rfl)
theorem rowB_inj {a b : List ValD} (ha : ∀ v ∈ a, FitV v) (hb : ∀ v ∈ b, FitV v) (la : a.length ≤ 9223372036854775807) (lb : b.length ≤ 9223372036854775807) (h : rowB a = rowB b) : a = b := by
  have h1 : rowL a = rowL b := by
    have := congrArg (fun x : ByteArray => x.data.toList) h
    simpa [rowB] using this
  have h2 := row_read ha la
  rw [h1, row_read hb lb] at h2
  exact (Option.some.inj h2).symm
def seenP (key : List Int) (t : List DeltaD) (k : ByteArray) : Bool := t.any fun y => decide (0 < y.n) && decide (rowB (keyR key y.row) = k)
theorem keyR_fit {key : List Int} {r : List ValD} (hf : FitK key r) (h : ∀ v ∈ r, FitV v) : ∀ v ∈ keyR key r, FitV v := fun v hv => by
  obtain ⟨k, hk, rfl⟩ := List.mem_map.1 hv
  obtain ⟨h1, h2⟩ := hf k hk
  have hj : k.toNat < r.length := by omega
  rw [List.getD_eq_getElem?_getD, List.getElem?_eq_getElem hj]
  exact h _ (List.getElem_mem hj)
theorem seen_later {key : List Int} (hkl : key.length ≤ 10000000) {d : DeltaD} {t : List DeltaD} (hf : ∀ x ∈ d :: t, FitK key x.row) (h : ∀ x ∈ d :: t, ∀ v ∈ x.row, FitV v) : seenP key t (rowB (keyR key d.row)) = laterK key d t := by
  unfold seenP laterK
  have hl : ∀ r : List ValD, (keyR key r).length ≤ 9223372036854775807 := fun r => by unfold keyR; rw [List.length_map]; omega
  rw [Bool.eq_iff_iff, List.any_eq_true, List.any_eq_true]
  constructor
  · rintro ⟨y, hy, hb⟩
    refine ⟨y, hy, ?_⟩
    rw [Bool.and_eq_true] at hb ⊢
    have h1 := of_decide_eq_true hb.1
    have h2 := rowB_inj (keyR_fit (hf y (by simp [hy])) (h y (by simp [hy]))) (keyR_fit (hf d (by simp)) (h d (by simp))) (hl _) (hl _) (of_decide_eq_true hb.2)
    exact ⟨by rw [decide_eq_false (by omega)]; rfl, decide_eq_true h2.symm⟩
  · rintro ⟨y, hy, hb⟩
    refine ⟨y, hy, ?_⟩
    rw [Bool.and_eq_true] at hb ⊢
    have h1 : ¬ y.n < 1 := of_decide_eq_false (by simpa using hb.1)
    have h2 : keyR key d.row = keyR key y.row := of_decide_eq_true hb.2
    exact ⟨decide_eq_true (by omega), decide_eq_true (by rw [h2])⟩
theorem choose_fn {β : Type} (d : β) {n : Nat} {P : Nat → β → Prop} (h : ∀ j, j < n → ∃ b, P j b) : ∃ f : Nat → β, ∀ j, j < n → P j (f j) :=
  ⟨fun j => if hj : j < n then Classical.choose (h j hj) else d, fun j hj => by
    simp only [dif_pos hj]
    exact Classical.choose_spec (h j hj)⟩
theorem Backward_use {W w : World} {S : List Own} {Φ : PW} [Stable Φ] {p : Option Addr} {n cp : Nat} (c : Ctx W w S Φ) {K : Ending → World → Prop}
    (hk : ∀ kb w', Ctx W w' (.blk kb [.slice p n cp] 28 :: S) Φ → K (.returned (.func (.func F.slices_Backward_api_Delta_api_Delta_1) #[] #[.pointer (some ⟨kb, 0, none⟩)])) w') : Calls Tryd.prog F.slices_Backward_api_Delta_api_Delta #[.slice p n cp] w K :=
  (Bslices_Backward_api_Delta_api_Delta_run p n cp (R := S) c (J := fun v w' => K (.returned v) w') fun kb w' F cx => hk kb w' cx.left).mono fun e w' ⟨v, he, h⟩ => by subst he; exact h
theorem pushV {W w : World} {R G : List Own} {PS : PW} [Stable PS] {op : Option Addr} {oc : Nat} {ds : List Value} {o : List ValD} {x : ValD} {kb : Nat} (hx : (I64 x.kind ∧ I64 x.num) ∧ x.text.size ≤ maxLen) (ho : o.length < 10000000)
    (cx : Ctx W w (.blk kb x.cells 44 :: .buf op o.length oc ds 44 3 :: R ++ G) (fun M w => PS M w ∧ Elems M w ds o)) :
    ∃ p c w', Sem.run Tryd.prog (builtin Builtin.append #[35, 35] 35 #[false, false] #[.slice op o.length oc, .slice (some ⟨kb, 0, none⟩) 1 1]) w = .ok (.value (.slice p (o ++ [x]).length c)) w' ∧ Ctx W w' (.buf p (o ++ [x]).length c (ds ++ x.cells) 44 3 :: R ++ G) (fun M w => PS M w ∧ Elems M w (ds ++ x.cells) (o ++ [x])) := by
  obtain ⟨p', cap', w', hrun, _, cx'⟩ := Ctx.app1 (P := Tryd.prog) (ts := 35) (ty := 35) (kb := #[false, false]) (size := 3) (bytes := 32) cx (by kernel_rfl) (by omega) rfl rfl (by omega) (by omega)
  have e : o.length + 1 = (o ++ [x]).length := by simp
  rw [e] at hrun cx'
  exact ⟨p', cap', w', hrun, cx'.weak fun M w h => ⟨h.1, h.2.snoc (val_rep hx)⟩⟩
section
variable {Φ : PW} {q : KP} {st : SkD} {W w : World} {R S G : List Own} {p r : Option Addr} {cap cap2 : Nat} {L : List LineD} {cs : List Value}
set_option maxHeartbeats 8000000 in
theorem CellsS_q [Stable Φ] [hT : Has Φ TabI] [hF : Has Φ (SkF q st)] (hq : SkQ q st) (hI : SkI st) {n : Nat} (hs : SkS st n) (hn : n ≤ 400000) (hkl : st.key.length ≤ 100000) (hfit : ∀ d ∈ netP st.lines, FitK st.key d.row) (htx : ∀ d ∈ netP st.lines, ∀ v ∈ d.row, v.text.size ≤ 10000) : GivesQSl (SkO q st) Φ Tryd.prog F.sink_Sink_Cells #[snk q] (skCells st) := by
  suffices hgo : There q.kp st.key.length → GivesQSl (SkO q st) Φ Tryd.prog F.sink_Sink_Cells #[snk q] (skCells st) from ⟨fun W w S c => (hgo (hF.go _ _ c.phi).2.1.there).go W w S c⟩
  intro htk
  refine gives_qsl (Bsink_Sink_Cells_run q.sb 0) fun W R => fun _ w G cx => ⟨st.kind, sk_cell (i := 0) cx rfl, ?_⟩
  clear cx
  refine Br.intro (fun hk => fun w G cx => ?_) (fun hk => ?_)
  · have hsk : skCells st = [] := by unfold skCells; rw [if_neg (of_decide_eq_true hk)]
    rw [hsk]
    exact ⟨none, 0, rfl, Nat.le_refl _, by decide, cx.left.weak fun M w h => ⟨h, fun i hi => absurd hi (by simp)⟩⟩
  have hk1 : st.kind = 1 := Decidable.not_not.1 (of_decide_eq_false hk)
  refine fun _ km _ w G cx => ((NetS_q hq hI hs hn).go W w (.obj km (.map #[] 0) :: (R ++ G)) (Ctx.re (Ctx.mid (B := R) cx) (by simp))).mono fun e w' ⟨p0, c0, he, g1, g2, cx⟩ => ?_
  have hnl := net_len st.lines
  have hll := hs.lines
  have hrow := net_row hI
  obtain ⟨l, hl⟩ : ∃ l, netP st.lines = l := ⟨_, rfl⟩
  have hsk : skCells st = cellsK st.key l := by unfold skCells; rw [if_pos hk1, hl]
  rw [hl] at hnl hrow hfit htx g1 he cx
  rw [hsk]
  clear hsk
  obtain ⟨gD, oD, cD, hpD, cx⟩ := cx.pin cx.phi.2
  obtain ⟨QS, hQS⟩ : ∃ QS : PW, QS = (fun M w => (Φ M w ∧ Sl M w p0 l) ∧ Pin gD oD cD l M w) := ⟨_, rfl⟩
  have stQ : Stable QS := by rw [hQS]; infer_instance
  have iQ : ∀ M w, QS M w → Φ M w := fun M w h => by rw [hQS] at h; exact h.1.1
  have iP : ∀ M w, QS M w → Pin gD oD cD l M w := fun M w h => by rw [hQS] at h; exact h.2
  rw [← hQS] at cx
  clear hQS
  have hcs := Ctx.cells cx iP
  obtain ⟨pf, hpf⟩ := choose_fn (β := Option Addr × Nat) (none, 0) (n := l.length) (P := fun j b => ∃ hj : j < l.length, cD.getD j [] = l[j].cells b.1 b.2 ∧ l[j].row.length ≤ b.2 ∧ b.2 ≤ maxLen ∧ I64 l[j].time ∧ I64 l[j].n) fun j hj => by
    obtain ⟨p, c, h⟩ := hcs j hj
    exact ⟨(p, c), hj, h⟩
  have hfv : ∀ x ∈ l, ∀ v ∈ x.row, FitV v := fun x hx v hv => by
    obtain ⟨j, hj, rfl⟩ := List.getElem_of_mem hx
    obtain ⟨_, e, _⟩ := hpf j hj
    have := sl_i64 (pin_row (iP _ _ cx.phi) hj e) v hv
    exact ⟨this.1, by have := this.2; unfold maxLen at this; omega⟩
  obtain ⟨key, hkey⟩ : ∃ key, st.key = key := ⟨_, rfl⟩
  have hK : ∀ M w, QS M w → Sl M w q.kp key := fun M w h => by rw [← hkey]; exact (hF.go M w (iQ M w h)).2.1
  obtain ⟨S0, hS0⟩ : ∃ S0, SkO q st ++ R = S0 := ⟨_, rfl⟩
  have hcellK : ∀ {w : World} {G : List Own} {Ψ : PW}, Ctx W w (S0 ++ G) Ψ → w.cell? ⟨q.sb, 0 + 1, none⟩ = some (.slice q.kp key.length q.kc) := fun {w G Ψ} cx => by rw [← hkey]; rw [← hS0] at cx; exact sk_cell (i := 1) cx rfl
  have cx : Ctx W w' ((.obj km (.map #[] 0) :: S0) ++ G) QS := by rw [← hS0]; exact Ctx.front (A := SkO q st) (B := R) (cx.re (by simp))
  refine ⟨p0, _, c0, he, .obj km (.map #[] 0) :: S0, QS, stQ, cx, ?_⟩
  rw [hkey] at hfit hkl htk ⊢
  rw [hS0]
  clear cx he hcs
  refine fun w G cx => Backward_use cx fun kb w cx => ⟨_, _, _, rfl, .blk kb [.slice p0 l.length c0] 28 :: .obj km (.map #[] 0) :: S0, QS, stQ, cx, rfl, by kernel_rfl, l.length, ?_⟩
  clear cx
  have hit : Iter Tryd.prog F.slices_Backward_api_Delta_api_Delta_1 #[.pointer (some ⟨kb, 0, none⟩)] l.length (fun k => #[.int .i64 ((l.length : Int) - 1 - k), .agg #[.int .i64 ((l.getD (l.length - 1 - k) ⟨0, [], 0⟩).time), .slice (pf (l.length - 1 - k)).1 ((l.getD (l.length - 1 - k) ⟨0, [], 0⟩).row.length) (pf (l.length - 1 - k)).2, .int .i64 ((l.getD (l.length - 1 - k) ⟨0, [], 0⟩).n)]]) (fun w => w.cell? ⟨kb, 0, none⟩ = some (.slice p0 l.length c0) ∧ ∀ j, j < l.length → RowAt w gD (oD + j * 3) (dV (fun j => (l.getD j ⟨0, [], 0⟩).time) (fun j => (l.getD j ⟨0, [], 0⟩).n) (fun j => (pf j).1) (fun j => (l.getD j ⟨0, [], 0⟩).row.length) (fun j => (pf j).2) j)) :=
    back_iter' hpD g1 g2 (by omega) _ _ _ _ _
  have getl : ∀ j (hj : j < l.length), l.getD j ⟨0, [], 0⟩ = l[j] := fun j hj => by rw [List.getD_eq_getElem?_getD, List.getElem?_eq_getElem hj]; rfl
  refine exI_mk (fun k => [.int .i64 ((l.length : Int) - 1 - k), .agg #[.int .i64 ((l.getD (l.length - 1 - k) ⟨0, [], 0⟩).time), .slice (pf (l.length - 1 - k)).1 ((l.getD (l.length - 1 - k) ⟨0, [], 0⟩).row.length) (pf (l.length - 1 - k)).2, .int .i64 ((l.getD (l.length - 1 - k) ⟨0, [], 0⟩).n)]])
    (exI_mk (fun w => w.cell? ⟨kb, 0, none⟩ = some (.slice p0 l.length c0) ∧ ∀ j, j < l.length → RowAt w gD (oD + j * 3) (dV (fun j => (l.getD j ⟨0, [], 0⟩).time) (fun j => (l.getD j ⟨0, [], 0⟩).n) (fun j => (pf j).1) (fun j => (l.getD j ⟨0, [], 0⟩).row.length) (fun j => (pf j).2) j))
    (exI_mk (fun a t p n c m k => t = (l.getD (l.length - 1 - k) ⟨0, [], 0⟩).time ∧ p = (pf (l.length - 1 - k)).1 ∧ n = (l.getD (l.length - 1 - k) ⟨0, [], 0⟩).row.length ∧ c = (pf (l.length - 1 - k)).2 ∧ m = (l.getD (l.length - 1 - k) ⟨0, [], 0⟩).n)
    (exI_mk (fun op on oc R' Φ' k => ∃ (ds : List Value) (o : List DeltaD) (es : List (GEnt ByteArray Bool)) (clk : Nat), k ≤ l.length ∧ o = (cellsK key (l.drop (l.length - k))).reverse ∧ GOk es clk ∧ (∀ x, getG false es x = seenP key (l.drop (l.length - k)) x) ∧ on = o.length ∧ R' = .buf op o.length oc ds 39 3 :: .obj km (gObj Value.string Value.bool es clk) :: .blk kb [.slice p0 l.length c0] 28 :: S0 ∧ Φ' = (fun M w => QS M w ∧ Elems M w ds o))
      ⟨hit, fun k hk => ⟨rfl, rfl, rfl, rfl, rfl⟩, ⟨.buf none 0 0 [] 39 3 :: .obj km (.map #[] 0) :: .blk kb [.slice p0 l.length c0] 28 :: S0, fun M w => QS M w ∧ Elems M w [] ([] : List DeltaD), inferInstance, fun w G cx => ((Ctx.swap cx).weak fun M w h => ⟨h, Elems.nil⟩).nobuf 39 3, [], [], [], 0, Nat.zero_le _, by rw [Nat.sub_zero, List.drop_length]; rfl, ⟨.nil, .nil, by simp⟩, fun x => by rw [Nat.sub_zero, List.drop_length]; rfl, rfl, rfl, rfl⟩, ?_⟩)))
  clear hit
  rintro op _ oc R1 Φ1 k _ ⟨ds, o, es, clk, hk, ho, hok, hseen, rfl, rfl, rfl⟩
  have hol : o.length ≤ 400000 := by
    rw [ho, List.length_reverse]
    have := cellsK_len key (l.drop (l.length - k))
    rw [List.length_drop] at this
    omega
  refine ⟨fun w G cx => ⟨cx.get 2 rfl rfl, fun j hj => ?_⟩, fun hlt => ?_, fun hend => ?_⟩
  · obtain ⟨_, e, _⟩ := hpf j hj
    have := pin_rowAt (iP _ _ cx.phi.1) hj e
    simp only [dV, getl j hj]
    exact this
  rotate_left
  · -- the end
    subst hend
    rw [Nat.sub_self, List.drop_zero] at ho
    refine fun w G cx => ?_
    obtain ⟨es2, hds, hes⟩ := elems_ex cx.phi.2
    have hel : es2.length = o.length := by rw [← hes, List.length_map]
    subst hds
    rw [← hel]
    rw [← hel] at cx
    have cx2 : Ctx W w ((bufE op oc es2 :: (.obj km (gObj Value.string Value.bool es clk) :: .blk kb [.slice p0 l.length c0] 28 :: S0)) ++ G) (fun M w => QS M w ∧ EPhi es2 M w) := cx.weak fun M w h => ⟨h.1, elems_e (by rw [hes]; exact h.2)⟩
    refine Reverse_use es2 cx2 rfl (by omega) fun w cx => ⟨rfl, bufE op oc es2.reverse :: (.obj km (gObj Value.string Value.bool es clk) :: .blk kb [.slice p0 l.length c0] 28 :: S0), _, inferInstance, cx, fun w G cx => ?_⟩
    have cx3 := cx.left
    have hre : es2.reverse.map DE.d = cellsK key l := by rw [List.map_reverse, hes, ho, List.reverse_reverse]
    obtain ⟨cx4, hsl, _, h2, h3⟩ := Ctx.freeze (α := DeltaD) cx3 (l := cellsK key l) (by
      rw [← hre]
      exact e_elems fun x hx => cx3.phi.2 x (List.mem_reverse.1 hx))
    have hlen2 : es2.length = (cellsK key l).length := by rw [← hre, List.length_map, List.length_reverse]
    rw [hlen2]
    exact ⟨op, oc, rfl, by rw [← hlen2]; simpa using h2, h3, ((cx4.add hsl).drop1).drop1.weak fun M w h => ⟨iQ M w h.1.1, h.2⟩⟩
  -- one more delta
  rintro a t2 p2 n2 c2 m2 ⟨rfl, rfl, rfl, rfl, rfl⟩
  obtain ⟨j, hj⟩ : ∃ j, l.length - 1 - k = j := ⟨_, rfl⟩
  have hjl : j < l.length := by omega
  have e1 : l.length - k = j + 1 := by omega
  have e2 : l.length - (k + 1) = j := by omega
  rw [hj, getl j hjl]
  rw [e1] at ho hseen
  have hdr : l.drop j = l[j] :: l.drop (j + 1) := List.drop_eq_getElem_cons hjl
  obtain ⟨_, e3, f1, f2, f3, f4⟩ := hpf j hjl
  have hfj := hfit _ (List.getElem_mem hjl)
  have hrj := hrow _ (List.getElem_mem hjl)
  have htj := htx _ (List.getElem_mem hjl)
  have hsj : ∀ M w, QS M w → Sl M w (pf j).1 l[j].row := fun M w h => pin_row (iP M w h) hjl e3
  have hfvj := hfv _ (List.getElem_mem hjl)
  have hlat := seen_later (by omega) (d := l[j]) (t := l.drop (j + 1)) (fun x hx => hfit x (by rw [← hdr] at hx; exact List.mem_of_mem_drop hx)) (fun x hx => hfv x (by rw [← hdr] at hx; exact List.mem_of_mem_drop hx))
  obtain ⟨tl, htl⟩ : ∃ tl, l.drop (j + 1) = tl := ⟨_, rfl⟩
  obtain ⟨q1, hq1⟩ : ∃ q1, (pf j).1 = q1 := ⟨_, rfl⟩
  obtain ⟨qc1, hqc1⟩ : ∃ qc1, (pf j).2 = qc1 := ⟨_, rfl⟩
  obtain ⟨X, hX⟩ : ∃ X, l[j] = X := ⟨_, rfl⟩
  rw [htl] at ho hseen hlat hdr
  rw [hX] at f1 f3 f4 hfj hrj htj hsj hfvj hlat hdr ⊢
  rw [hq1] at hsj ⊢
  rw [hqc1] at f1 f2 ⊢
  obtain ⟨S1, hS1⟩ : ∃ S1 : List Own, S1 = .buf op o.length oc ds 39 3 :: .obj km (gObj Value.string Value.bool es clk) :: .blk kb [.slice p0 l.length c0] 28 :: S0 := ⟨_, rfl⟩
  obtain ⟨PS, hPS⟩ : ∃ PS : PW, PS = (fun M w => QS M w ∧ Elems M w ds o) := ⟨_, rfl⟩
  have stP : Stable PS := by rw [hPS]; infer_instance
  have i1 : ∀ M w, PS M w → QS M w := fun M w h => by rw [hPS] at h; exact h.1
  rw [← hS1, ← hPS]
  refine fun _ w G cx => ⟨q.kp, key.length, q.kc, hcellK (G := G) (by rw [hS1] at cx; exact ((Ctx.drop1 cx).drop1).drop1), ?_⟩
  have htX := (hsj _ _ (i1 _ _ cx.phi)).there
  clear cx
  -- its key
  refine exI_mk (fun vp vn vc iI R' Φ' kk => ∃ (i : Nat) (vs : List Value), iI = i ∧ i ≤ key.length ∧ vn = (keyR (key.take i) X.row).length ∧ R' = .buf vp (keyR (key.take i) X.row).length vc vs 44 3 :: S1 ∧ Φ' = (fun M w => PS M w ∧ Elems M w vs (keyR (key.take i) X.row)) ∧ kk = key.length - i)
    ⟨⟨.buf none 0 0 [] 44 3 :: S1, fun M w => PS M w ∧ Elems M w [] ([] : List ValD), _, inferInstance, fun w G cx => (cx.weak fun M w h => ⟨h, Elems.nil⟩).nobuf 44 3, 0, [], rfl, Nat.zero_le _, rfl, rfl, rfl, rfl⟩, ?_⟩
  rintro vp _ vc iI R2 Φ2 kk _ ⟨i, vs, rfl, hi, rfl, rfl, rfl, rfl⟩
  have hvl : (keyR (key.take i) X.row).length = i := by unfold keyR; rw [List.length_map, List.length_take]; omega
  refine Br.intro (fun hlt2 => ?_) (fun hge2 => fun w G cx => ?_)
  · have hlt2 : i < key.length := by have := of_decide_eq_true hlt2; omega
    obtain ⟨gk, ok, hkp⟩ := htk (by omega)
    obtain ⟨k1, k2⟩ := hfj _ (List.getElem_mem hlt2)
    obtain ⟨gX, oX, hXp⟩ := htX (by omega)
    obtain ⟨m, hm⟩ : ∃ m : Nat, key[i] = (m : Int) := ⟨key[i].toNat, by omega⟩
    have hmX : m < X.row.length := by omega
    have hstep : keyR (key.take (i + 1)) X.row = keyR (key.take i) X.row ++ [X.row[m]] := by
      unfold keyR
      rw [List.take_succ_eq_append_getElem hlt2, List.map_append, List.map_cons, List.map_nil, hm, Int.toNat_natCast, List.getD_eq_getElem?_getD, List.getElem?_eq_getElem hmX]; rfl
    refine ⟨by omega, ptrK_intro gk ok hkp fun w G cx => ⟨key[i], by rw [Int.toNat_natCast]; exact sl_int (by rw [← hkp]; exact hK _ _ (i1 _ _ cx.phi.1)) hlt2, by omega, ptrK_intro gX oX hXp fun w G cx => ⟨X.row[m].kind, X.row[m].num, X.row[m].text, by rw [hm, Int.toNat_natCast]; exact sl_val (by rw [← hXp]; exact hsj _ _ (i1 _ _ cx.phi.1)) hmX, fun kv w G cx => ?_⟩⟩⟩
    have hv := hfvj _ (List.getElem_mem hmX)
    obtain ⟨p', c', w', hrun, cx'⟩ := pushV (x := X.row[m]) (PS := PS) ⟨hv.1, by have := hv.2; unfold maxLen; omega⟩ (by omega) cx
    rw [← hstep] at hrun cx'
    have st3 : Stable (fun M w => PS M w ∧ Elems M w (vs ++ X.row[m].cells) (keyR (key.take (i + 1)) X.row)) := inferInstance
    exact ⟨p', _, c', w', hrun, _, _, st3, cx', by unfold Go.Vc.I64; omega, _, _, key.length - (i + 1), st3, fun w G cx => cx, ⟨i + 1, _, by omega, hlt2, rfl, rfl, rfl, rfl⟩, by omega⟩
  have hge2 : i = key.length := by have := of_decide_eq_false hge2; omega
  subst hge2
  rw [List.take_length] at hvl cx ⊢
  obtain ⟨cx2, hsv, _, v1, v2⟩ := Ctx.freeze (α := ValD) cx cx.phi.2
  have cx3 := (cx2.add hsv).weak (Ψ := fun M w => PS M w ∧ Sl M w vp (keyR key X.row)) fun M w h => ⟨h.1.1, h.2⟩
  clear cx cx2
  refine (RowBytes_in (Φ := fun M w => PS M w ∧ Sl M w vp (keyR key X.row)) vp vc (keyR key X.row) (fun M w h => hT.go M w (iQ M w (i1 M w h.1))) (fun M w h => h.2) (by omega) (fun v hv => ?_)).toS cx3 ?_
  · obtain ⟨k, hk, rfl⟩ := List.mem_map.1 hv
    obtain ⟨h1, h2⟩ := hfj k hk
    have hj : k.toNat < X.row.length := by omega
    rw [List.getD_eq_getElem?_getD, List.getElem?_eq_getElem hj]
    exact htj _ (List.getElem_mem hj)
  clear cx3
  have hseenX := (hseen (rowB (keyR key X.row))).trans hlat
  subst hS1
  have hmap : ∀ {w : World} {G : List Own} {Ψ : PW}, Ctx W w ((.buf op o.length oc ds 39 3 :: .obj km (gObj Value.string Value.bool es clk) :: .blk kb [.slice p0 l.length c0] 28 :: S0) ++ G) Ψ → w.heap[km]? = some (gObj Value.string Value.bool es clk) := fun {w G Ψ} cx => cx.own (.obj km (gObj Value.string Value.bool es clk)) (by simp)
  refine fun w G cx => ⟨getG false es (rowB (keyR key X.row)), fun _ w2 hw2 => run_lookupG seenTy (by rw [hw2]; exact hmap cx) _, ?_⟩
  clear cx
  rw [hseenX]
  have hlive : liveK key X tl = (decide (0 < X.n) && !laterK key X tl) := rfl
  rw [← hlive]
  have hcells : cellsK key (X :: tl) = if liveK key X tl = true then X :: cellsK key tl else cellsK key tl := rfl
  have hsn : ∀ x, seenP key (X :: tl) x = ((decide (0 < X.n) && decide (rowB (keyR key X.row) = x)) || seenP key tl x) := fun x => rfl
  refine Br.intro (fun hli => fun w G cx => ?_) (fun hnl => ?_)
  · rw [if_pos hli] at hcells
    have hpos : 0 < X.n := by rw [hlive, Bool.and_eq_true] at hli; exact of_decide_eq_true hli.1
    obtain ⟨es1, clk1, hrun, hok1, hg1⟩ := run_updateG seenTy hok (hmap cx) (rowB (keyR key X.row)) true
    have cy := cx.putObj 1 (gObj Value.string Value.bool es1 clk1) rfl
    refine ⟨_, hrun, .buf op o.length oc ds 39 3 :: .obj km (gObj Value.string Value.bool es1 clk1) :: .blk kb [.slice p0 l.length c0] 28 :: S0, (fun M w => QS M w ∧ Elems M w ds o), inferInstance, cy.weak fun M w h => by have := h.1; rw [hPS] at this; exact this, fun kd w G cx => ?_⟩
    clear cy
    obtain ⟨p', c', w', hrun2, cx'⟩ := push1 (x := X) (PS := QS) (fun M w h => rep_delta f1 f2 f3 f4 (hsj M w h)) (by omega) cx
    have ho2 : o ++ [X] = (cellsK key (l.drop (l.length - (k + 1)))).reverse := by rw [e2, hdr, hcells, List.reverse_cons, ← ho]
    have st3 : Stable (fun M w => QS M w ∧ Elems M w (ds ++ X.cells q1 qc1) (o ++ [X])) := inferInstance
    refine ⟨p', _, c', w', hrun2, _, _, st3, cx', _, _, st3, fun w G cx => cx, _, o ++ [X], es1, clk1, by omega, ho2, hok1, fun x => ?_, rfl, rfl, rfl⟩
    rw [e2, hdr, hg1, hsn, hseen x, decide_eq_true hpos, Bool.true_and]
    by_cases hx : x = rowB (keyR key X.row)
    · rw [if_pos hx, decide_eq_true hx.symm, Bool.true_or]
    · rw [if_neg hx, decide_eq_false fun e => hx e.symm, Bool.false_or]
  · rw [if_neg (by rw [hnl]; simp)] at hcells
    refine ⟨_, _, (inferInstance : Stable (fun M w => QS M w ∧ Elems M w ds o)), fun w G cx => cx.weak fun M w h => by have := h.1; rw [hPS] at this; exact this, ds, o, es, clk, by omega, by rw [e2, hdr, hcells]; exact ho, hok, fun x => ?_, rfl, rfl, rfl⟩
    rw [e2, hdr, hsn, hseen x]
    by_cases hpos : 0 < X.n
    · rw [decide_eq_true hpos, Bool.true_and]
      by_cases hx : rowB (keyR key X.row) = x
      · rw [decide_eq_true hx, Bool.true_or, ← hx, hlat]
        rw [hlive, decide_eq_true hpos, Bool.true_and] at hnl
        simpa using hnl
      · rw [decide_eq_false hx, Bool.false_or]
    · rw [decide_eq_false hpos, Bool.false_and, Bool.false_or]
end
end Go.Proofs.YtemhapmbcbbljaaDoor
end

section
namespace Go.Proofs.YtemhapmbcbbljaaDoor
open Go.Vc
theorem sameK_eq {key : List Int} {a b : List ValD} : sameK key a b = true ↔ keyR key a = keyR key b := decide_eq_true_iff
theorem sameK_symm {key : List Int} {a b : List ValD} : sameK key a b = sameK key b a := by
  unfold sameK
  exact decide_eq_decide.2 ⟨Eq.symm, Eq.symm⟩
theorem cells_count {key : List Int} {r : List ValD} : ∀ l : List DeltaD, ((cellsK key l).filter fun c => sameK key c.row r).length = if (l.any fun y => !decide (y.n < 1) && sameK key y.row r) = true then 1 else 0
  | [] => rfl
  | x :: l => by
    have ih := cells_count (key := key) (r := r) l
    rw [List.any_cons]
    unfold cellsK
    by_cases hs : sameK key x.row r = true
    · have hl : laterK key x l = l.any fun y => !decide (y.n < 1) && sameK key y.row r := by
        unfold laterK
        congr 1
        funext y
        congr 1
        rw [sameK_symm (a := x.row)]
        unfold sameK
        rw [sameK_eq.1 hs]
      unfold liveK
      rw [hl, hs, Bool.and_true]
      by_cases ha : (l.any fun y => !decide (y.n < 1) && sameK key y.row r) = true
      · rw [ha] at ih ⊢
        simp only [Bool.not_true, Bool.and_false, Bool.false_eq_true, if_false, Bool.or_true, if_true] at ih ⊢
        exact ih
      · rw [Bool.not_eq_true] at ha
        rw [ha] at ih ⊢
        simp only [Bool.not_false, Bool.and_true, Bool.or_false, Bool.false_eq_true, if_false] at ih ⊢
        by_cases hn : 0 < x.n
        · rw [if_pos (decide_eq_true hn), List.filter_cons_of_pos (p := fun (c : DeltaD) => sameK key c.row r) hs, List.length_cons, ih, if_pos (by rw [decide_eq_false (by omega)]; rfl)]
        · rw [if_neg (by rw [decide_eq_false hn]; simp), ih, if_neg (by rw [decide_eq_true (by omega)]; simp)]
    · rw [Bool.not_eq_true] at hs
      rw [hs, Bool.and_false, Bool.false_or, ← ih]
      split
      · rw [List.filter_cons_of_neg (p := fun (c : DeltaD) => sameK key c.row r) (by rw [hs]; simp)]
      · rfl
theorem cells_last {key : List Int} : ∀ {l : List DeltaD}, Norm l → ∀ {c d : DeltaD}, c ∈ cellsK key l → d ∈ l → 0 < d.n → sameK key c.row d.row = true → 0 < c.n ∧ (d = c ∨ cmpK d.key c.key < 0)
  | [], _, _, _, h, _, _, _ => by cases h
  | x :: l, hN, c, d, hc, hd, hn, hs => by
    have tl : c ∈ cellsK key l → 0 < c.n ∧ (d = c ∨ cmpK d.key c.key < 0) := fun hc' => by
      rcases List.mem_cons.1 hd with rfl | hd
      · have hcl := cellsK_mem hc'
        refine ⟨?_, .inr (hN.head c hcl)⟩
        exact (cells_last hN.tail hc' hcl (by
          have : ∀ {l : List DeltaD}, c ∈ cellsK key l → 0 < c.n := fun {l} => by
            induction l with
            | nil => intro h; cases h
            | cons y l ih =>
              intro h
              unfold cellsK at h
              split at h
              · rename_i hl
                rcases List.mem_cons.1 h with rfl | h
                · unfold liveK at hl
                  rw [Bool.and_eq_true] at hl
                  exact of_decide_eq_true hl.1
                · exact ih h
              · exact ih h
          exact this hc') (sameK_eq.2 rfl)).1
      · exact cells_last hN.tail hc' hd hn hs
    unfold cellsK at hc
    split at hc
    · rename_i hl
      rcases List.mem_cons.1 hc with rfl | hc
      · unfold liveK at hl
        rw [Bool.and_eq_true] at hl
        refine ⟨of_decide_eq_true hl.1, ?_⟩
        rcases List.mem_cons.1 hd with rfl | hd
        · exact .inl rfl
        · exfalso
          have h2 : laterK key c l = false := by simpa using hl.2
          have := List.any_eq_false.1 h2 d hd
          rw [hs, decide_eq_false (by omega)] at this
          exact this rfl
      · exact tl hc
    · exact tl hc
end Go.Proofs.YtemhapmbcbbljaaDoor
end

section
namespace Go.Proofs.YtemhapmbcbbljaaDoor
open Go.Vc
abbrev d00 : DeltaD := ⟨0, [], 0⟩
def allK (l : List DeltaD) (i : Nat) : List LineD := (List.range i).map fun (j : Nat) => ⟨((j : Nat) : Int) + 1, 7, (l.getD j d00).time, (l.getD j d00).row, (l.getD j d00).n, 0, 0⟩
theorem allK_len (l : List DeltaD) (i : Nat) : (allK l i).length = i := by unfold allK; rw [List.length_map, List.length_range]
theorem allK_step (l : List DeltaD) (i : Nat) : allK l (i + 1) = allK l i ++ [⟨(i : Int) + 1, 7, (l.getD i d00).time, (l.getD i d00).row, (l.getD i d00).n, 0, 0⟩] := by unfold allK; rw [List.range_succ, List.map_append]; rfl
theorem allK_d (l : List DeltaD) : (allK l l.length).map LineD.d = l := by
  apply List.ext_getElem?
  intro k
  unfold allK
  rw [List.map_map, List.getElem?_map]
  by_cases h : k < l.length
  · rw [List.getElem?_range h, List.getElem?_eq_getElem h]
    have e : l.getD k d00 = l[k] := by rw [List.getD_eq_getElem?_getD, List.getElem?_eq_getElem h]; rfl
    show some (LineD.d ⟨((k : Nat) : Int) + 1, 7, (l.getD k d00).time, (l.getD k d00).row, (l.getD k d00).n, 0, 0⟩) = _
    rw [e]
    rfl
  · rw [List.getElem?_eq_none (by rw [List.length_range]; omega), List.getElem?_eq_none (by omega)]; rfl
theorem num_of : ∀ {n : Int} {l : List LineD}, (∀ (i : Nat) (h : i < l.length), l[i].no = n + i) → numK n l = true
  | _, [], _ => rfl
  | n, x :: l, h => by
    show (decide (x.no = n) && numK (n + 1) l) = true
    rw [Bool.and_eq_true]
    refine ⟨decide_eq_true (by have := h 0 (by simp); simpa using this), num_of fun i hi => ?_⟩
    have := h (i + 1) (by simpa using hi)
    simp only [List.getElem_cons_succ] at this
    omega
theorem allK_mem {l : List DeltaD} {i : Nat} (hi : i ≤ l.length) {x : LineD} (h : x ∈ allK l i) : x.batch = 7 ∧ x.d ∈ l := by
  unfold allK at h
  obtain ⟨j, hj, rfl⟩ := List.mem_map.1 h
  have hj := List.mem_range.1 hj
  refine ⟨rfl, ?_⟩
  have e : l.getD j d00 = l[j]'(by omega) := by rw [List.getD_eq_getElem?_getD, List.getElem?_eq_getElem (by omega)]; rfl
  simp only [LineD.d]
  rw [e]
  exact List.getElem_mem _
theorem all_look {key : List Int} {l : List DeltaD} (hN : Norm l) (hr : ∀ d ∈ l, rightR d.row = true) (hf : ∀ d ∈ l, FitK key d.row) : lookK (newK 1 key) 7 (allK l l.length) = 0 := by
  have h1 : (allK l l.length).any (badK key 7) = false := List.any_eq_false.2 fun x hx => by
    obtain ⟨hb, hd⟩ := allK_mem (Nat.le_refl _) hx
    have h2 : shortK key x.row = false := List.any_eq_false.2 fun k hk => by
      have := (hf _ hd k hk).2
      have h3 : k < (x.row.length : Int) := this
      rw [decide_eq_false (by omega)]; simp
    have h4 : ¬ x.n = 0 := hN.nz _ hd
    unfold badK
    rw [h2, show rightR x.row = true from hr _ hd, hb, decide_eq_false h4]
    simp
  have h5 : numK 1 (allK l l.length) = true := num_of fun i hi => by
    have e : (allK l l.length)[i]'hi = ⟨((i : Nat) : Int) + 1, 7, (l.getD i d00).time, (l.getD i d00).row, (l.getD i d00).n, 0, 0⟩ := (List.getElem_map ..).trans (by rw [List.getElem_range])
    rw [e]
    show (i : Int) + 1 = 1 + i
    omega
  show (if (7 : Int) < 1 then 25 else if 7 ≤ lastK (newK 1 key) then 25 else if (allK l l.length).any (badK key 7) = true then 1 else if numK (((newK 1 key).lines.length : Int) + 1) (allK l l.length) = false then 25 else 0) = 0
  rw [if_neg (by omega), if_neg (by show ¬ (7 : Int) ≤ 0; decide), h1, if_neg (by simp)]
  have h6 : numK (((newK 1 key).lines.length : Int) + 1) (allK l l.length) = true := h5
  rw [h6, if_neg (by simp)]
theorem all_deliv {key : List Int} {l : List DeltaD} (hN : Norm l) (hr : ∀ d ∈ l, rightR d.row = true) (hf : ∀ d ∈ l, FitK key d.row) : delivK (newK 1 key) 7 (allK l l.length) = (0, takeK (newK 1 key) 7 (allK l l.length)) := by
  have h := all_look hN hr hf
  unfold delivK
  rw [if_neg (by show ¬ (1 : Int) = 0; decide), if_neg (by show ¬ decide ((7 : Int) ∈ ([] : List Int)) = true; decide), h, if_neg (by simp)]
theorem not_less {c d : DeltaD} (h : d = c ∨ cmpK d.key c.key < 0) : ¬ c.time < d.time ∧ (c.time = d.time → ¬ cmpR c.row d.row < 0) := by
  rcases h with rfl | h
  · exact ⟨by omega, fun _ => by rw [cmpR_cmp.refl]; omega⟩
  · unfold cmpK lex at h
    simp only [DeltaD.key] at h
    split at h
    · rename_i h0
      have : d.time < c.time := by
        unfold cmpI at h
        split at h
        · assumption
        · split at h <;> omega
      exact ⟨by omega, fun e => by omega⟩
    · rename_i h0
      have h0 : cmpI d.time c.time = 0 := Decidable.not_not.1 h0
      have e := (cmpI_cmp.eq _ _).1 h0
      exact ⟨by omega, fun _ h2 => cmpR_cmp.irr h h2⟩
theorem keyR_snoc {key : List Int} {a b : List ValD} {j ja : Nat} (h : j < key.length) (ha : key[j].toNat < a.length) (hb : key[j].toNat < b.length) : decide (keyR (key.take (j + 1)) a = keyR (key.take (j + 1)) b) = (decide (keyR (key.take j) a = keyR (key.take j) b) && decide (a[key[j].toNat] = b[key[j].toNat])) := by
  have e : ∀ r : List ValD, (hr : key[j].toNat < r.length) → keyR (key.take (j + 1)) r = keyR (key.take j) r ++ [r[key[j].toNat]] := fun r hr => by
    unfold keyR
    rw [List.take_succ_eq_append_getElem h, List.map_append, List.map_cons, List.map_nil, List.getD_eq_getElem?_getD, List.getElem?_eq_getElem hr]; rfl
  rw [e a ha, e b hb, ← Bool.decide_and]
  refine decide_eq_decide.2 ⟨fun h => ?_, fun h => by rw [h.1, h.2]⟩
  have := List.append_inj h (by unfold keyR; rw [List.length_map, List.length_map])
  exact ⟨this.1, by simpa using this.2⟩
theorem deliv_sum (st : SkD) (b : Int) (L : List LineD) : (delivK st b L).2.lines = st.lines ++ (if (decide ((delivK st b L).1 = 0) && !hasK st b) = true then L else []) := by
  rcases deliv_cases st b L with ⟨e, h⟩ | ⟨_, h2, _, e⟩
  · rw [e, if_neg, List.append_nil]
    intro h3
    rw [Bool.and_eq_true] at h3
    have := (h (of_decide_eq_true h3.1)).2
    rw [this] at h3
    exact absurd h3.2 (by simp)
  · rw [e, h2, if_pos (by simp)]; rfl
end Go.Proofs.YtemhapmbcbbljaaDoor
end

