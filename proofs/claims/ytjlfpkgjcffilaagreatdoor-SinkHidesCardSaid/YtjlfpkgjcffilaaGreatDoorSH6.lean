/-
  For every input erratalaw43.SinkHides returns true, does not panic, comes to an end, and leaves what came in as it was; the variables that its row lists are as the program's text lays them.
  Conditions: none beyond the given statement's own (SinkHidesCardSaid).
-/
import Derived.Test.YtjlfpkgjcffilaaGreatDoorSH5
import Derived.Test.YtjlfpkgjcffilaaGreatDoorTie
import Derived.Test.YtjlfpkgjcffilaaGreatDoorCards
import Derived.SevenTiedAt
import Derived.LaidMore
import Derived.ChangeMaps5
import Derived.Test.YtjlfpkgjcffilaaGreatDoorRows

/-
  A sink: what is checked ahead of a batch; taking a batch: walked.
-/
section
set_option linter.unusedVariables false
set_option linter.unusedSimpArgs false
namespace Go.Proofs.YtjlfpkgjcffilaaGreatDoor
open Go.Vc


theorem Ctx.rowIn {W w : World} {S : List Own} {Φ : PW} [Stable Φ] {b : Nat} {cs : List Value} {t : TypeId} (c : Ctx W w (.blk b cs t :: S) Φ) : Ctx W w S (fun M w => Φ M w ∧ RowIn b 0 cs M w) := by
  refine c.drop1.add ⟨fun hm => ?_, ?_, c.lt (b := b) (by simp [dom, Own.dom])⟩
  · have h := c.nodup
    have e : dom (.blk b cs t :: S) = b :: dom S := rfl
    rw [e] at h
    exact (List.nodup_cons.1 h).1 hm
  · exact c.row0 0 rfl

section
variable {Φ : PW} {q : KP} {st : SkD} {W w : World} {R S G : List Own} {p : Option Addr} {cap : Nat} {L : List LineD} {cs : List Value}

theorem IndexZ_in [Stable Φ] {l : List Int} [hΦ : Has Φ (fun M w => Sl M w p l)] (f : FuncId) (cp : Array Value) (g : Int → Bool) (hlen : l.length ≤ 10000000) (hf : okFun Tryz.prog f = true) (hg : ∀ x : Int, GivesIn Φ Tryz.prog f (Array.mk (.int .i64 x :: cp.toList)) (.bool (g x))) :
    GivesIn Φ Tryz.prog F.slices_IndexFunc_int_int #[.slice p l.length cap, .func (.func f) #[] cp] (.int .i64 (findI g 0 l)) := by
  refine .there (fun M w h => (hΦ.go M w h).there) fun hth => ?_
  refine gives_in (Bslices_IndexFunc_int_int_run p l.length cap f cp) fun W R => ?_
  refine exI_mk (fun n R' Φ' k => ∃ i : Nat, n = i ∧ i ≤ l.length ∧ R' = R ∧ Φ' = Φ ∧ k = l.length - i ∧ findI g 0 l = findI g i (l.drop i)) ⟨⟨R, Φ, _, inferInstance, fun w F c => c, 0, rfl, Nat.zero_le _, rfl, rfl, rfl, rfl⟩, ?_⟩
  rintro n R1 Φ1 k _ ⟨i, rfl, hi, rfl, rfl, rfl, hor⟩
  refine Br.intro (fun hlt => ?_) (fun hge => fun w F cx => ⟨?_, cx.left⟩)
  · have hlt : i < l.length := by simpa using hlt
    rw [findI_drop g l i hlt] at hor
    obtain ⟨b, o, rfl⟩ := hth (by omega)
    refine ⟨by omega, ptrK_intro b o rfl fun w F cx => ⟨l[i], by rw [Int.toNat_natCast]; exact sl_int (hΦ.go _ _ cx.phi) hlt, fun w F cx => ⟨hf, (hg l[i]).use cx fun w cx => ⟨g l[i], rfl, R1, Φ1, inferInstance, cx, Br.intro (fun h => fun w F cx => ⟨?_, cx.left⟩) (fun h => ⟨by unfold I64; omega, R1, Φ1, l.length - (i + 1), inferInstance, fun w F c => c, ⟨i + 1, rfl, hlt, rfl, rfl, rfl, ?_⟩, by omega⟩)⟩⟩⟩⟩
    · rw [hor, if_pos h]
    · rw [hor, if_neg (by rw [h]; simp)]
  · have hge : i = l.length := Nat.le_antisymm hi (by simpa using hge)
    rw [hor, hge, List.drop_length]
    rfl
theorem ContainsZ_in [Stable Φ] {l : List Int} [hΦ : Has Φ (fun M w => Sl M w p l)] (f : FuncId) (cp : Array Value) (g : Int → Bool) (hlen : l.length ≤ 10000000) (hf : okFun Tryz.prog f = true) (hg : ∀ x : Int, GivesIn Φ Tryz.prog f (Array.mk (.int .i64 x :: cp.toList)) (.bool (g x))) :
    GivesIn Φ Tryz.prog F.slices_ContainsFunc_int_int #[.slice p l.length cap, .func (.func f) #[] cp] (.bool (l.any g)) :=
  gives_in (Bslices_ContainsFunc_int_int_run p l.length cap f cp) fun W R => fun w G cx => (IndexZ_in f cp g hlen hf hg).toI cx fun w G cx => ⟨by rw [findI_any], cx.left⟩

theorem look1_in [Stable Φ] {x : LineD} {r : Option Addr} {rc kb : Nat} [hR : Has Φ (fun M w => RowIn kb 0 (x.cells r rc) M w)] (k : Int) : GivesIn Φ Tryz.prog F.sink_Sink_look_1 (Array.mk (.int .i64 k :: [.pointer (some ⟨kb, 0, none⟩)])) (.bool (decide ((x.row.length : Int) ≤ k))) :=
  gives_in (Bsink_Sink_look_1_run k kb 0) fun W R => fun w G cx => ⟨r, x.row.length, rc, (hR.go _ _ cx.phi).2.1 3 (by show 3 < 7; decide), fun w G cx => ⟨rfl, cx.left⟩⟩

set_option maxHeartbeats 2000000 in
theorem Look_q [Stable Φ] {b : Int} [hF : Has Φ (SkF q st)] (hq : SkQ q st) {n : Nat} (hs : SkS st n) (hn : n ≤ 400000) (src : Src [] Φ p L cs) (hc : Rows7 cs L) (hlen : L.length ≤ 1000000) :
    GivesQ (SkO q st) Φ Tryz.prog F.sink_Sink_look #[snk q, .int .i64 b, .slice p L.length cap] (.int .i64 (lookK st b L)) := by
  have hll := hs.lines
  have hkl := hs.key
  refine gives_q (Bsink_Sink_look_run q.sb 0 b p L.length cap) fun W R => ?_
  unfold lookK
  refine Br.intro (fun h => fun w G cx => ⟨by rw [if_pos (of_decide_eq_true h)], cx.left⟩) (fun h => ?_)
  rw [if_neg (of_decide_eq_false h)]
  refine fun w G cx => (Last_q hq).toI cx ?_
  clear cx
  refine Br.intro (fun h => fun w G cx => ⟨by rw [if_pos (of_decide_eq_true h)], cx.left⟩) (fun h => ?_)
  rw [if_neg (of_decide_eq_false h)]
  have hsrcR : ∀ {i : Nat} (hi : i < L.length) {r : Option Addr} {rc : Nat}, (cs.drop (i * 7)).take 7 = L[i].cells r rc → Has Φ (fun M w => Sl M w r L[i].row) := fun {i} hi {r rc} he => ⟨fun M w h => src_sl src hi he h⟩
  have hkey : Has Φ (fun M w => Sl M w q.kp st.key) := ⟨fun M w h => (hF.go M w h).2.1⟩
  refine exI_mk (fun iI R' Φ' k => ∃ i : Nat, iI = i ∧ i ≤ L.length ∧ R' = SkO q st ++ R ∧ Φ' = Φ ∧ k = L.length - i ∧ L.any (badK st.key b) = (L.drop i).any (badK st.key b)) ⟨⟨_, _, _, inferInstance, fun w G cx => cx, 0, rfl, Nat.zero_le _, rfl, rfl, rfl, rfl⟩, ?_⟩
  rintro iI R1 Φ1 k _ ⟨i, rfl, hi, rfl, rfl, rfl, hor⟩
  refine Br.intro (fun hlt => ?_) (fun hge => ?_)
  · have hlt : i < L.length := by have := of_decide_eq_true hlt; omega
    obtain ⟨bb, o, hp⟩ := src.ptr (by omega)
    obtain ⟨r, rc, he, h1, h2, h3⟩ := hc i hlt
    have hhi := hsrcR hlt he
    rw [List.drop_eq_getElem_cons hlt, List.any_cons] at hor
    have bad : badK st.key b L[i] = true → L.any (badK st.key b) = true := fun h => by rw [hor, h]; rfl
    have stop : L.any (badK st.key b) = true → ∀ {w : World} {G : List Own} {Ψ : PW}, [Stable Ψ] → [Has Ψ Φ1] → Ctx W w ((SkO q st ++ R) ++ G) Ψ → (Value.int .i64 1) = .int .i64 (if L.any (badK st.key b) = true then 1 else if numK ((st.lines.length : Int) + 1) L = false then 25 else 0) ∧ Ctx W w (SkO q st ++ R) Φ1 := fun h {w G Ψ} _ _ cx => ⟨by rw [if_pos h], (Ctx.has cx).left⟩
    refine ⟨by omega, ptrK_intro bb o hp fun w G cx => ⟨L[i].no, L[i].batch, L[i].time, r, L[i].row.length, rc, L[i].n, L[i].cause, L[i].why, by rw [Int.toNat_natCast]; exact src_at (G := (SkO q st ++ R) ++ G) src hp cx he, fun kb w G cx => ⟨cx.can 0 rfl (by show 0 + 7 ≤ 7; decide), fun w2 hw2 => ?_⟩⟩⟩
    have c2 := cx.puts 0 hw2 rfl
    have c3 : Ctx W w2 (.blk kb (L[i].cells r rc) 46 :: ((SkO q st ++ R) ++ G)) Φ1 := c2
    have c4 := Ctx.rowIn c3
    have hR : Has (fun M w => Φ1 M w ∧ RowIn kb 0 (L[i].cells r rc) M w) (fun M w => RowIn kb 0 (L[i].cells r rc) M w) := ⟨fun M w h => h.2⟩
    have stR : ∀ cs : List Value, Stable (fun M w => Φ1 M w ∧ RowIn kb 0 cs M w) := fun cs => inferInstance
    have stR := stR (L[i].cells r rc)
    have hcell : ∀ {w : World} {S : List Own}, Ctx W w S (fun M w => Φ1 M w ∧ RowIn kb 0 (L[i].cells r rc) M w) → ∀ j (hj : j < 7), w.cell? ⟨kb, j, none⟩ = some ((L[i].cells r rc)[j]'hj) := fun {w S} cx j hj => by
      have := cx.phi.2.2.1 j hj
      rw [Nat.zero_add] at this
      exact this
    refine ⟨SkO q st ++ R, fun M w => Φ1 M w ∧ RowIn kb 0 (L[i].cells r rc) M w, stR, c4, fun w G cx => ⟨_, _, _, sk_cell (i := 1) cx rfl, fun w G cx => ?_⟩⟩
    refine (ContainsZ_in (Φ := fun M w => Φ1 M w ∧ RowIn kb 0 (L[i].cells r rc) M w) (l := st.key) F.sink_Sink_look_1 #[.pointer (some ⟨kb, 0, none⟩)] (fun k => decide ((L[i].row.length : Int) ≤ k)) (by omega) (by kernel_rfl) (fun k => look1_in (x := L[i]) (r := r) (rc := rc) (kb := kb) k)).toB cx ?_
    clear cx c4 c3 c2
    refine fun w G cx => ⟨L[i].batch, hcell cx 1 (by decide), Br.intro (fun g1 => fun w G cx => stop (bad ?_) cx) (fun g1 => fun w G cx => ⟨L[i].n, hcell cx 4 (by decide), Br.intro (fun g2 => fun w G cx => stop (bad ?_) cx) (fun g2 => fun w G cx => ⟨r, L[i].row.length, rc, hcell cx 3 (by decide), fun w G cx => (RightRow_in (r := L[i].row)).toB cx ?_⟩)⟩)⟩
    · unfold badK; rw [g1]; rfl
    · unfold badK; rw [g2, Bool.or_true]; rfl
    clear cx
    refine Br.intro (fun g3 => fun w G cx => stop (bad ?_) cx) (fun g3 => ?_)
    · unfold badK; rw [g3, Bool.or_true]; rfl
    have hsh : (st.key.any fun k => decide ((L[i].row.length : Int) ≤ k)) = shortK st.key L[i].row := rfl
    rw [hsh]
    refine Br.intro (fun g4 => fun w G cx => stop (bad ?_) cx) (fun g4 => ?_)
    · unfold badK; rw [g4, Bool.or_true]
    have hok : badK st.key b L[i] = false := by unfold badK; rw [g1, g2, g3, g4]; rfl
    exact ⟨by unfold I64; omega, SkO q st ++ R, Φ1, L.length - (i + 1), inferInstance, fun w G cx => cx.fst, ⟨i + 1, rfl, hlt, rfl, rfl, rfl, by rw [hor, hok]; rfl⟩, by omega⟩
  have hge : i = L.length := by have := of_decide_eq_false hge; omega
  subst hge
  rw [List.drop_length] at hor
  have hor : L.any (badK st.key b) = false := hor
  rw [if_neg (by rw [hor]; simp)]
  refine exI_mk (fun iI R' Φ' k => ∃ i : Nat, iI = i ∧ i ≤ L.length ∧ R' = SkO q st ++ R ∧ Φ' = Φ1 ∧ k = L.length - i ∧ numK ((st.lines.length : Int) + 1) L = numK ((st.lines.length : Int) + 1 + i) (L.drop i)) ⟨⟨_, _, _, inferInstance, fun w G cx => cx, 0, rfl, Nat.zero_le _, rfl, rfl, rfl, by rw [Int.natCast_zero, Int.add_zero]; rfl⟩, ?_⟩
  rintro iI R1 Φ2 k _ ⟨i, rfl, hi, rfl, rfl, rfl, hnu⟩
  refine Br.intro (fun hlt => ?_) (fun hge => fun w G cx => ⟨?_, cx.left⟩)
  · have hlt : i < L.length := by have := of_decide_eq_true hlt; omega
    obtain ⟨bb, o, hp⟩ := src.ptr (by omega)
    obtain ⟨r, rc, he, h1, h2, h3⟩ := hc i hlt
    rw [List.drop_eq_getElem_cons hlt] at hnu
    have hnu : numK ((st.lines.length : Int) + 1) L = (decide (L[i].no = (st.lines.length : Int) + 1 + i) && numK ((st.lines.length : Int) + 1 + i + 1) (L.drop (i + 1))) := hnu
    refine ⟨by omega, ptrK_intro bb o hp fun w G cx => ⟨L[i].no, L[i].batch, L[i].time, r, L[i].row.length, rc, L[i].n, L[i].cause, L[i].why, by rw [Int.toNat_natCast]; exact src_at (G := (SkO q st ++ R) ++ G) src hp cx he, fun _ w G cx => ⟨_, _, _, sk_cell (i := 3) cx rfl, by unfold I64; omega, by unfold I64; omega, Br.intro (fun h => fun w G cx => ⟨?_, cx.left⟩) (fun h => ⟨by unfold I64; omega, _, Φ2, L.length - (i + 1), inferInstance, fun w G cx => cx, ⟨i + 1, rfl, hlt, rfl, rfl, rfl, ?_⟩, by omega⟩)⟩⟩⟩
    · rw [hnu, decide_eq_false (of_decide_eq_true h), Bool.false_and, if_pos rfl]
    · rw [hnu, decide_eq_true (Decidable.not_not.1 (of_decide_eq_false h)), Bool.true_and, show (st.lines.length : Int) + 1 + i + 1 = (st.lines.length : Int) + 1 + ((i + 1 : Nat) : Int) by omega]
  · have hge : i = L.length := by have := of_decide_eq_false hge; omega
    subst hge
    rw [List.drop_length] at hnu
    rw [show numK ((st.lines.length : Int) + 1) L = true from hnu]; rfl

set_option maxHeartbeats 2000000 in
theorem take_use [Stable Φ] {b : Int} [hF : Has Φ (SkF q st)] [hL : Has Φ (fun M w => Sl M w p L)] (hq : SkQ q st) {n : Nat} (hs : SkS st n) (hn : n ≤ 400000) (hlen : L.length ≤ 400000) (c : Ctx W w ((SkO q st ++ R) ++ G) Φ) {K : List Own → PW → Prop}
    (hk : ∀ q' : KP, q'.sb = q.sb → SkQ q' (takeK st b L) → Stable (fun M w => Φ M w ∧ SkF q' (takeK st b L) M w) → K (SkO q' (takeK st b L) ++ R) (fun M w => Φ M w ∧ SkF q' (takeK st b L) M w)) :
    Calls Tryz.prog F.sink_Sink_take #[snk q, .int .i64 b, .slice p L.length cap] w fun e w' => e = .returned (.tuple #[]) ∧ ∃ R' Φ', Stable Φ' ∧ Ctx W w' (R' ++ G) Φ' ∧ K R' Φ' := by
  have hll := hs.lines
  have hbl := hs.bats
  refine (Bsink_Sink_take_run q.sb 0 b p L.length cap (R := (SkO q st ++ R) ++ G) (J := fun v w' => v = .tuple #[] ∧ ∃ R' Φ', Stable Φ' ∧ Ctx W w' (R' ++ G) Φ' ∧ K R' Φ') c ?_).mono fun e w' ⟨v, he, hv, rest⟩ => ⟨by rw [he, hv], rest⟩
  clear c
  refine fun w G2 cx => ⟨_, _, _, sk_cell (q := q) (st := st) (R := R ++ G) (G := G2) (i := 2) (cx.re (by simp)) rfl, fun kb w G2 cx => ?_⟩
  have cy : Ctx W w (.blk kb [.int .i64 b] 3 :: bufZ q.bp q.bc st.bats :: (.blk q.sb (SkB q st) 69 :: bufL q.lp st.lines.length q.lc q.cs :: (R ++ G)) ++ G2) Φ := cx.perm (by simpa using List.Perm.swap _ _ _)
  obtain ⟨p8, c8, w2, hrun, cz⟩ := pushZ (by omega) cy
  refine ⟨p8, _, c8, w2, hrun, .blk q.sb (SkB q st) 69 :: bufZ p8 c8 (st.bats ++ [b]) :: bufL q.lp st.lines.length q.lc q.cs :: (R ++ G), Φ, inferInstance, Ctx.swap cz, fun w G3 cx => ⟨cx.can 0 rfl (by show 2 + 1 ≤ 6; decide), fun w3 hw3 => ?_⟩⟩
  have c5 := cx.put 0 hw3 rfl
  refine ⟨.blk q.sb [.int .i64 st.kind, .slice q.kp st.key.length q.kc, .slice p8 (st.bats ++ [b]).length c8, .slice q.lp st.lines.length q.lc, .int .i64 st.prep, .slice q.ap st.aside.length q.ac] 69 :: bufZ p8 c8 (st.bats ++ [b]) :: bufL q.lp st.lines.length q.lc q.cs :: (R ++ G), Φ, inferInstance, c5, fun w G4 cx => ⟨_, _, _, cx.get 0 rfl rfl, fun w G4 cx => ?_⟩⟩
  clear c5 cz cy
  have cy : Ctx W w (bufL q.lp st.lines.length q.lc q.cs :: .blk q.sb [.int .i64 st.kind, .slice q.kp st.key.length q.kc, .slice p8 (st.bats ++ [b]).length c8, .slice q.lp st.lines.length q.lc, .int .i64 st.prep, .slice q.ap st.aside.length q.ac] 69 :: bufZ p8 c8 (st.bats ++ [b]) :: ((R ++ G) ++ G4)) Φ := cx.perm (List.perm_middle (l₁ := [_, _]) (a := _))
  obtain ⟨p2, c2, w4, news, hrun2, cx3⟩ := Ctx.appAny (P := Tryz.prog) (ts := 33) (ty := 33) (kb := #[false, false]) (bytes := 72) (c2 := cap) (l := L) (q := p) cy (by kernel_rfl) line_one hL.go (by omega) (by omega)
  have hel : st.lines.length + L.length = (st.lines ++ L).length := by rw [List.length_append]
  rw [hel] at hrun2 cx3
  refine ⟨p2, _, c2, w4, hrun2, .blk q.sb [.int .i64 st.kind, .slice q.kp st.key.length q.kc, .slice p8 (st.bats ++ [b]).length c8, .slice q.lp st.lines.length q.lc, .int .i64 st.prep, .slice q.ap st.aside.length q.ac] 69 :: bufZ p8 c8 (st.bats ++ [b]) :: bufL p2 (st.lines ++ L).length c2 (q.cs ++ news) :: (R ++ G), (fun M w => Φ M w ∧ Elems M w (q.cs ++ news) (st.lines ++ L)), inferInstance, ?_, fun w G5 cx => ⟨cx.can 0 rfl (by show 3 + 1 ≤ 6; decide), fun w5 hw5 => ?_⟩⟩
  · exact (cx3.weak fun M w h => ⟨h.1, (hF.go M w h.1).1.append h.2⟩).perm (List.perm_middle (l₁ := [_, _]) (a := _)).symm
  have c6 := cx.put 0 hw5 rfl
  obtain ⟨q2, hq2⟩ : ∃ q2 : KP, q2 = ⟨q.sb, q.kp, q.kc, p8, c8, p2, c2, q.cs ++ news, q.ap, q.ac⟩ := ⟨_, rfl⟩
  have c7 : Ctx W w5 ((SkO q2 (takeK st b L) ++ R) ++ (G ++ G5)) (fun M w => Φ M w ∧ SkF q2 (takeK st b L) M w) := by
    rw [hq2]
    have c8 := c6.weak (Ψ := fun M w => Φ M w ∧ SkF ⟨q.sb, q.kp, q.kc, p8, c8, p2, c2, q.cs ++ news, q.ap, q.ac⟩ (takeK st b L) M w) fun M w h => ⟨h.1, h.2, (hF.go M w h.1).2⟩
    exact c8.re (by simp [takeK])
  have hq' : SkQ q2 (takeK st b L) := skq_of (S := R ++ (G ++ G5)) (c7.re (by simp)) (by rw [hq2]; exact hq.kcap) (by rw [hq2]; exact hq.acap)
  refine ⟨SkO q2 (takeK st b L) ++ (R ++ G), _, inferInstance, c7.re (by simp), fun w G6 cx => ⟨rfl, SkO q2 (takeK st b L) ++ R, _, inferInstance, (cx.left).re (by simp), hk q2 (by rw [hq2]) hq' inferInstance⟩⟩
end
end Go.Proofs.YtjlfpkgjcffilaaGreatDoor
end

/-
  A sink: Prepare, Commit, Abort, Deliver: walked.
-/
section
set_option linter.unusedVariables false
set_option linter.unusedSimpArgs false
namespace Go.Proofs.YtjlfpkgjcffilaaGreatDoor
open Go.Vc


section
variable {Φ : PW} {q : KP} {st : SkD} {W w : World} {R S G : List Own} {p : Option Addr} {cap : Nat} {L : List LineD} {cs : List Value}

theorem Look_to [Stable Φ] {b : Int} [hF : Has Φ (SkF q st)] [hL : Has Φ (fun M w => Sl M w p L)] (hq : SkQ q st) {n : Nat} (hs : SkS st n) (hn : n ≤ 400000) (hlen : L.length ≤ 400000) :
    GivesQ (SkO q st) Φ Tryz.prog F.sink_Sink_look #[snk q, .int .i64 b, .slice p L.length cap] (.int .i64 (lookK st b L)) :=
  ⟨fun W w S c => by
    have hth := (hL.go _ _ c.phi).there
    obtain ⟨cs, c1⟩ := srcOf c (hL.go _ _ c.phi)
    exact ((Look_q (Φ := fun M w => Φ M w ∧ SrcF p L cs M w) hq hs hn (src_fact (Φ := fun M w => Φ M w ∧ SrcF p L cs M w) hth fun M w h => h.2) (rows7 c1.phi.2.2) (by omega)).go W w S c1).mono fun e w' ⟨he, c2⟩ => ⟨he, c2.fst⟩⟩

theorem sk_put {w' : World} [Stable Φ] (cx : Ctx W w (SkO q st ++ S) Φ) {i : Nat} {v : Value} (e : w' = w.setCell ⟨q.sb, i, none⟩ v) : Ctx W w' (.blk q.sb ((SkB q st).set i v) 69 :: bufZ q.bp q.bc st.bats :: bufL q.lp st.lines.length q.lc q.cs :: S) Φ := cx.put 0 e rfl
theorem sk_can (cx : Ctx W w (SkO q st ++ S) Φ) {i : Nat} (h : i < 6) : CanWrite w q.sb i 1 := cx.can 0 rfl (by show i + 1 ≤ 6; omega)

set_option maxHeartbeats 2000000 in
theorem Prepare_use [Stable Φ] {b : Int} [hF : Has Φ (SkF q st)] [hL : Has Φ (fun M w => Sl M w p L)] (hq : SkQ q st) (hI : SkI st) {n : Nat} (hs : SkS st n) (hn : n ≤ 400000) (hlen : L.length ≤ 400000) (c : Ctx W w ((SkO q st ++ R) ++ G) Φ) {K : Int → List Own → PW → Prop}
    (hk : ∀ q' : KP, q'.sb = q.sb → SkQ q' (prepK st b L).2 → Stable (fun M w => Φ M w ∧ SkF q' (prepK st b L).2 M w) → K (prepK st b L).1 (SkO q' (prepK st b L).2 ++ R) (fun M w => Φ M w ∧ SkF q' (prepK st b L).2 M w)) :
    Calls Tryz.prog F.sink_Sink_Prepare #[snk q, .int .i64 b, .slice p L.length cap] w fun e w' => ∃ n, e = .returned (.int .i64 n) ∧ ∃ R' Φ', Stable Φ' ∧ Ctx W w' (R' ++ G) Φ' ∧ K n R' Φ' := by
  refine (Bsink_Sink_Prepare_run q.sb 0 b p L.length cap (R := (SkO q st ++ R) ++ G) (J := fun v w' => ∃ n, v = .int .i64 n ∧ ∃ R' Φ', Stable Φ' ∧ Ctx W w' (R' ++ G) Φ' ∧ K n R' Φ') c ?_).mono fun e w' ⟨v, he, n, hv, rest⟩ => ⟨n, by rw [he, hv], rest⟩
  clear c
  have same : ∀ (m : Int), prepK st b L = (m, st) → ∀ {w : World} {G2 : List Own}, Ctx W w ((SkO q st ++ (R ++ G)) ++ G2) Φ → ∃ n, Value.int .i64 m = .int .i64 n ∧ ∃ R' Φ', Stable Φ' ∧ Ctx W w (R' ++ G) Φ' ∧ K n R' Φ' := fun m h {w G2} cx => by
    have := hk q rfl
    rw [h] at this
    exact ⟨m, rfl, SkO q st ++ R, _, inferInstance, ((cx.left).re (by simp)).weak fun M w h => ⟨h, hF.go M w h⟩, this hq inferInstance⟩
  refine fun w G2 cx => ⟨st.kind, cx.get 0 rfl rfl, ?_⟩
  clear cx
  have e0 : prepK st b L = if st.kind ≠ 0 then (7, st) else if hasK st b = true then (0, st) else if lookK st b L ≠ 0 then (lookK st b L, st) else (0, { st with prep := b, aside := L }) := rfl
  refine Br.intro (fun h => fun w G2 cx => same 7 (by rw [e0, if_pos (of_decide_eq_true h)]) (G2 := G2) (cx.re (by simp))) (fun h => fun w G2 cx => ?_)
  rw [if_neg (of_decide_eq_false h)] at e0
  refine (Has_q hq hI hs hn).toB (R := R ++ G) (cx.re (by simp)) ?_
  clear cx
  refine Br.intro (fun h => fun w G2 cx => same 0 (by rw [e0, if_pos h]) cx) (fun h => fun w G2 cx => ?_)
  rw [if_neg (by rw [h]; simp)] at e0
  refine (Look_to hq hs hn hlen).toI (R := R ++ G) cx ?_
  clear cx
  refine Br.intro (fun h => fun w G2 cx => same _ (by rw [e0, if_pos (of_decide_eq_true h)]) cx) (fun h => fun w G2 cx => ?_)
  rw [if_neg (of_decide_eq_false h)] at e0
  obtain ⟨_, _, g3, _⟩ := look_ok (of_decide_eq_false h)
  refine (CloneK_sl (l := L) (by omega) fun x hx => by have := right_len (bad_right (g3 x hx)).2.2.1; omega).to cx fun p1 c1 f1 f2 st1 => ?_
  clear cx
  refine fun w G3 cx => ⟨sk_can (q := q) (st := st) (S := (R ++ G) ++ G3) (cx.re (by simp)) (by decide), fun w2 hw2 => ?_⟩
  have c2 := sk_put (q := q) (st := st) (S := (R ++ G) ++ G3) (cx.re (by simp)) hw2
  refine ⟨.blk q.sb [.int .i64 st.kind, .slice q.kp st.key.length q.kc, .slice q.bp st.bats.length q.bc, .slice q.lp st.lines.length q.lc, .int .i64 b, .slice q.ap st.aside.length q.ac] 69 :: bufZ q.bp q.bc st.bats :: bufL q.lp st.lines.length q.lc q.cs :: (R ++ G), _, st1, c2, fun w G4 cx => ⟨cx.can 0 rfl (by show 5 + 1 ≤ 6; decide), fun w3 hw3 => ?_⟩⟩
  have c4 := cx.put 0 hw3 rfl
  obtain ⟨q2, hq2⟩ : ∃ q2 : KP, q2 = ⟨q.sb, q.kp, q.kc, q.bp, q.bc, q.lp, q.lc, q.cs, p1, c1⟩ := ⟨_, rfl⟩
  obtain ⟨st2, hst2⟩ : ∃ st2 : SkD, st2 = { st with prep := b, aside := L } := ⟨_, rfl⟩
  rw [← hst2] at e0
  have c7 : Ctx W w3 ((SkO q2 st2 ++ R) ++ (G ++ G4)) (fun M w => Φ M w ∧ SkF q2 st2 M w) := by
    rw [hq2, hst2]
    have c8 := c4.weak (Ψ := fun M w => Φ M w ∧ SkF ⟨q.sb, q.kp, q.kc, q.bp, q.bc, q.lp, q.lc, q.cs, p1, c1⟩ { st with prep := b, aside := L } M w) fun M w h => ⟨h.1, (hF.go M w h.1).1, (hF.go M w h.1).2.1, h.2⟩
    exact c8.re (by simp)
  have hq' : SkQ q2 st2 := skq_of (S := R ++ (G ++ G4)) (c7.re (by simp)) (by rw [hq2, hst2]; exact hq.kcap) (by rw [hq2, hst2]; exact ⟨f1, f2⟩)
  rw [e0] at hk
  exact ⟨SkO q2 st2 ++ (R ++ G), _, inferInstance, c7.re (by simp), fun w G6 cx => ⟨0, rfl, SkO q2 st2 ++ R, _, inferInstance, (cx.left).re (by simp), hk q2 (by rw [hq2]) hq' inferInstance⟩⟩

set_option maxHeartbeats 2000000 in
theorem Abort_use [Stable Φ] {b : Int} [hF : Has Φ (SkF q st)] (hq : SkQ q st) (hI : SkI st) {n : Nat} (hs : SkS st n) (hn : n ≤ 400000) (c : Ctx W w ((SkO q st ++ R) ++ G) Φ) {K : Int → List Own → PW → Prop}
    (hk : ∀ q' : KP, q'.sb = q.sb → SkQ q' (abortK st b).2 → Stable (fun M w => Φ M w ∧ SkF q' (abortK st b).2 M w) → K (abortK st b).1 (SkO q' (abortK st b).2 ++ R) (fun M w => Φ M w ∧ SkF q' (abortK st b).2 M w)) :
    Calls Tryz.prog F.sink_Sink_Abort #[snk q, .int .i64 b] w fun e w' => ∃ n, e = .returned (.int .i64 n) ∧ ∃ R' Φ', Stable Φ' ∧ Ctx W w' (R' ++ G) Φ' ∧ K n R' Φ' := by
  refine (Bsink_Sink_Abort_run q.sb 0 b (R := (SkO q st ++ R) ++ G) (J := fun v w' => ∃ n, v = .int .i64 n ∧ ∃ R' Φ', Stable Φ' ∧ Ctx W w' (R' ++ G) Φ' ∧ K n R' Φ') c ?_).mono fun e w' ⟨v, he, n, hv, rest⟩ => ⟨n, by rw [he, hv], rest⟩
  clear c
  have same : ∀ (m : Int), abortK st b = (m, st) → ∀ {w : World} {G2 : List Own}, Ctx W w ((SkO q st ++ (R ++ G)) ++ G2) Φ → ∃ n, Value.int .i64 m = .int .i64 n ∧ ∃ R' Φ', Stable Φ' ∧ Ctx W w (R' ++ G) Φ' ∧ K n R' Φ' := fun m h {w G2} cx => by
    have := hk q rfl
    rw [h] at this
    exact ⟨m, rfl, SkO q st ++ R, _, inferInstance, ((cx.left).re (by simp)).weak fun M w h => ⟨h, hF.go M w h⟩, this hq inferInstance⟩
  refine fun w G2 cx => ⟨st.kind, cx.get 0 rfl rfl, ?_⟩
  clear cx
  have e0 : abortK st b = if st.kind ≠ 0 then (7, st) else if hasK st b = true then (7, st) else if (decide (b < 1) || decide (b ≠ st.prep)) = true then (4, st) else (0, { st with prep := 0, aside := [] }) := rfl
  refine Br.intro (fun h => fun w G2 cx => same 7 (by rw [e0, if_pos (of_decide_eq_true h)]) (G2 := G2) (cx.re (by simp))) (fun h => fun w G2 cx => ?_)
  rw [if_neg (of_decide_eq_false h)] at e0
  refine (Has_q hq hI hs hn).toB (R := R ++ G) (cx.re (by simp)) ?_
  clear cx
  refine Br.intro (fun h => fun w G2 cx => same 7 (by rw [e0, if_pos h]) cx) (fun h => fun w G2 cx => ⟨st.prep, fun _ => sk_cell (R := R ++ G) (i := 4) cx rfl, ?_⟩)
  rw [if_neg (by rw [h]; simp)] at e0
  clear cx
  refine Br.intro (fun h => fun w G2 cx => same 4 (by rw [e0, if_pos h]) cx) (fun h => fun w G3 cx => ⟨sk_can (q := q) (st := st) (S := (R ++ G) ++ G3) (cx.re (by simp)) (by decide), fun w2 hw2 => ?_⟩)
  rw [if_neg (by rw [h]; simp)] at e0
  have c2 := sk_put (q := q) (st := st) (S := (R ++ G) ++ G3) (cx.re (by simp)) hw2
  refine ⟨.blk q.sb [.int .i64 st.kind, .slice q.kp st.key.length q.kc, .slice q.bp st.bats.length q.bc, .slice q.lp st.lines.length q.lc, .int .i64 0, .slice q.ap st.aside.length q.ac] 69 :: bufZ q.bp q.bc st.bats :: bufL q.lp st.lines.length q.lc q.cs :: (R ++ G), _, inferInstance, c2, fun w G4 cx => ⟨cx.can 0 rfl (by show 5 + 1 ≤ 6; decide), fun w3 hw3 => ?_⟩⟩
  have c4 := cx.put 0 hw3 rfl
  obtain ⟨q2, hq2⟩ : ∃ q2 : KP, q2 = ⟨q.sb, q.kp, q.kc, q.bp, q.bc, q.lp, q.lc, q.cs, none, 0⟩ := ⟨_, rfl⟩
  obtain ⟨st2, hst2⟩ : ∃ st2 : SkD, st2 = { st with prep := 0, aside := [] } := ⟨_, rfl⟩
  rw [← hst2] at e0
  have c7 : Ctx W w3 ((SkO q2 st2 ++ R) ++ (G ++ G4)) (fun M w => Φ M w ∧ SkF q2 st2 M w) := by
    rw [hq2, hst2]
    have c8 := c4.weak (Ψ := fun M w => Φ M w ∧ SkF ⟨q.sb, q.kp, q.kc, q.bp, q.bc, q.lp, q.lc, q.cs, none, 0⟩ { st with prep := 0, aside := [] } M w) fun M w h => ⟨h, (hF.go M w h).1, (hF.go M w h).2.1, fun i hi => absurd hi (by simp)⟩
    exact c8.re (by simp)
  have hq' : SkQ q2 st2 := skq_of (S := R ++ (G ++ G4)) (c7.re (by simp)) (by rw [hq2, hst2]; exact hq.kcap) (by rw [hq2, hst2]; exact ⟨Nat.le_refl _, Nat.zero_le _⟩)
  rw [e0] at hk
  exact ⟨SkO q2 st2 ++ (R ++ G), _, inferInstance, c7.re (by simp), fun w G6 cx => ⟨0, rfl, SkO q2 st2 ++ R, _, inferInstance, (cx.left).re (by simp), hk q2 (by rw [hq2]) hq' inferInstance⟩⟩

set_option maxHeartbeats 2000000 in
theorem Commit_use [Stable Φ] {b : Int} [hF : Has Φ (SkF q st)] (hq : SkQ q st) (hI : SkI st) {n : Nat} (hs : SkS st n) (hn : n ≤ 400000) (c : Ctx W w ((SkO q st ++ R) ++ G) Φ) {K : Int → List Own → PW → Prop}
    (hk : ∀ q' : KP, q'.sb = q.sb → SkQ q' (commK st b).2 → Stable (fun M w => Φ M w ∧ SkF q' (commK st b).2 M w) → K (commK st b).1 (SkO q' (commK st b).2 ++ R) (fun M w => Φ M w ∧ SkF q' (commK st b).2 M w)) :
    Calls Tryz.prog F.sink_Sink_Commit #[snk q, .int .i64 b] w fun e w' => ∃ n, e = .returned (.int .i64 n) ∧ ∃ R' Φ', Stable Φ' ∧ Ctx W w' (R' ++ G) Φ' ∧ K n R' Φ' := by
  have hal := hs.aside
  refine (Bsink_Sink_Commit_run q.sb 0 b (R := (SkO q st ++ R) ++ G) (J := fun v w' => ∃ n, v = .int .i64 n ∧ ∃ R' Φ', Stable Φ' ∧ Ctx W w' (R' ++ G) Φ' ∧ K n R' Φ') c ?_).mono fun e w' ⟨v, he, n, hv, rest⟩ => ⟨n, by rw [he, hv], rest⟩
  clear c
  have same : ∀ (m : Int), commK st b = (m, st) → ∀ {w : World} {G2 : List Own}, Ctx W w ((SkO q st ++ (R ++ G)) ++ G2) Φ → ∃ n, Value.int .i64 m = .int .i64 n ∧ ∃ R' Φ', Stable Φ' ∧ Ctx W w (R' ++ G) Φ' ∧ K n R' Φ' := fun m h {w G2} cx => by
    have := hk q rfl
    rw [h] at this
    exact ⟨m, rfl, SkO q st ++ R, _, inferInstance, ((cx.left).re (by simp)).weak fun M w h => ⟨h, hF.go M w h⟩, this hq inferInstance⟩
  refine fun w G2 cx => ⟨st.kind, cx.get 0 rfl rfl, ?_⟩
  clear cx
  have e0 : commK st b = if st.kind ≠ 0 then (7, st) else if hasK st b = true then (0, st) else if (decide (b < 1) || decide (b ≠ st.prep)) = true then (4, st) else (0, { takeK st b st.aside with prep := 0, aside := [] }) := rfl
  refine Br.intro (fun h => fun w G2 cx => same 7 (by rw [e0, if_pos (of_decide_eq_true h)]) (G2 := G2) (cx.re (by simp))) (fun h => fun w G2 cx => ?_)
  rw [if_neg (of_decide_eq_false h)] at e0
  refine (Has_q hq hI hs hn).toB (R := R ++ G) (cx.re (by simp)) ?_
  clear cx
  refine Br.intro (fun h => fun w G2 cx => same 0 (by rw [e0, if_pos h]) cx) (fun h => fun w G2 cx => ⟨st.prep, fun _ => sk_cell (R := R ++ G) (i := 4) cx rfl, ?_⟩)
  rw [if_neg (by rw [h]; simp)] at e0
  clear cx
  refine Br.intro (fun h => fun w G2 cx => same 4 (by rw [e0, if_pos h]) cx) (fun h => fun w G3 cx => ⟨_, _, _, sk_cell (R := R ++ G) (i := 5) cx rfl, fun w G3 cx => ?_⟩)
  rw [if_neg (by rw [h]; simp)] at e0
  have hasd : Has Φ (fun M w => Sl M w q.ap st.aside) := ⟨fun M w h => (hF.go M w h).2.2⟩
  refine take_use (R := R ++ G) (L := st.aside) (b := b) hq hs hn (by omega) cx fun q1 hsb hq1 st1 => ?_
  clear cx
  rw [← hsb]
  obtain ⟨s1, hs1⟩ : ∃ s1, takeK st b st.aside = s1 := ⟨_, rfl⟩
  rw [hs1] at hq1 st1 e0 ⊢
  refine fun w G3 cx => ⟨sk_can (q := q1) (st := s1) (S := (R ++ G) ++ G3) (cx.re (by simp)) (by decide), fun w2 hw2 => ?_⟩
  have c2 := sk_put (q := q1) (st := s1) (S := (R ++ G) ++ G3) (cx.re (by simp)) hw2
  refine ⟨.blk q1.sb [.int .i64 s1.kind, .slice q1.kp s1.key.length q1.kc, .slice q1.bp s1.bats.length q1.bc, .slice q1.lp s1.lines.length q1.lc, .int .i64 0, .slice q1.ap s1.aside.length q1.ac] 69 :: bufZ q1.bp q1.bc s1.bats :: bufL q1.lp s1.lines.length q1.lc q1.cs :: (R ++ G), _, st1, c2, fun w G4 cx => ⟨cx.can 0 rfl (by show 5 + 1 ≤ 6; decide), fun w3 hw3 => ?_⟩⟩
  have c4 := cx.put 0 hw3 rfl
  obtain ⟨q2, hq2⟩ : ∃ q2 : KP, q2 = ⟨q1.sb, q1.kp, q1.kc, q1.bp, q1.bc, q1.lp, q1.lc, q1.cs, none, 0⟩ := ⟨_, rfl⟩
  obtain ⟨st2, hst2⟩ : ∃ st2 : SkD, st2 = { s1 with prep := 0, aside := [] } := ⟨_, rfl⟩
  rw [← hst2] at e0
  have c7 : Ctx W w3 ((SkO q2 st2 ++ R) ++ (G ++ G4)) (fun M w => Φ M w ∧ SkF q2 st2 M w) := by
    rw [hq2, hst2]
    have c8 := c4.weak (Ψ := fun M w => Φ M w ∧ SkF ⟨q1.sb, q1.kp, q1.kc, q1.bp, q1.bc, q1.lp, q1.lc, q1.cs, none, 0⟩ { s1 with prep := 0, aside := [] } M w) fun M w h => ⟨h.1, h.2.1, h.2.2.1, fun i hi => absurd hi (by simp)⟩
    exact c8.re (by simp)
  have hq' : SkQ q2 st2 := skq_of (S := R ++ (G ++ G4)) (c7.re (by simp)) (by rw [hq2, hst2]; exact hq1.kcap) (by rw [hq2, hst2]; exact ⟨Nat.le_refl _, Nat.zero_le _⟩)
  rw [e0] at hk
  exact ⟨SkO q2 st2 ++ (R ++ G), _, inferInstance, c7.re (by simp), fun w G6 cx => ⟨0, rfl, SkO q2 st2 ++ R, _, inferInstance, (cx.left).re (by simp), hk q2 (by rw [hq2]; exact hsb) hq' inferInstance⟩⟩

set_option maxHeartbeats 2000000 in
theorem Deliver_use [Stable Φ] {b : Int} [hF : Has Φ (SkF q st)] [hL : Has Φ (fun M w => Sl M w p L)] (hq : SkQ q st) (hI : SkI st) {n : Nat} (hs : SkS st n) (hn : n ≤ 400000) (hlen : L.length ≤ 400000) (c : Ctx W w ((SkO q st ++ R) ++ G) Φ) {K : Int → List Own → PW → Prop}
    (hk : ∀ q' : KP, q'.sb = q.sb → SkQ q' (delivK st b L).2 → Stable (fun M w => Φ M w ∧ SkF q' (delivK st b L).2 M w) → K (delivK st b L).1 (SkO q' (delivK st b L).2 ++ R) (fun M w => Φ M w ∧ SkF q' (delivK st b L).2 M w)) :
    Calls Tryz.prog F.sink_Sink_Deliver #[snk q, .int .i64 b, .slice p L.length cap] w fun e w' => ∃ n, e = .returned (.int .i64 n) ∧ ∃ R' Φ', Stable Φ' ∧ Ctx W w' (R' ++ G) Φ' ∧ K n R' Φ' := by
  refine (Bsink_Sink_Deliver_run q.sb 0 b p L.length cap (R := (SkO q st ++ R) ++ G) (J := fun v w' => ∃ n, v = .int .i64 n ∧ ∃ R' Φ', Stable Φ' ∧ Ctx W w' (R' ++ G) Φ' ∧ K n R' Φ') c ?_).mono fun e w' ⟨v, he, n, hv, rest⟩ => ⟨n, by rw [he, hv], rest⟩
  clear c
  have same : ∀ (m : Int), delivK st b L = (m, st) → ∀ {w : World} {G2 : List Own}, Ctx W w ((SkO q st ++ (R ++ G)) ++ G2) Φ → ∃ n, Value.int .i64 m = .int .i64 n ∧ ∃ R' Φ', Stable Φ' ∧ Ctx W w (R' ++ G) Φ' ∧ K n R' Φ' := fun m h {w G2} cx => by
    have := hk q rfl
    rw [h] at this
    exact ⟨m, rfl, SkO q st ++ R, _, inferInstance, ((cx.left).re (by simp)).weak fun M w h => ⟨h, hF.go M w h⟩, this hq inferInstance⟩
  refine fun w G2 cx => ⟨st.kind, cx.get 0 rfl rfl, ?_⟩
  clear cx
  have e0 : delivK st b L = if st.kind = 0 then (7, st) else if hasK st b = true then (0, st) else if lookK st b L ≠ 0 then (lookK st b L, st) else (0, takeK st b L) := rfl
  refine Br.intro (fun h => fun w G2 cx => same 7 (by rw [e0, if_pos (of_decide_eq_true h)]) (G2 := G2) (cx.re (by simp))) (fun h => fun w G2 cx => ?_)
  rw [if_neg (of_decide_eq_false h)] at e0
  refine (Has_q hq hI hs hn).toB (R := R ++ G) (cx.re (by simp)) ?_
  clear cx
  refine Br.intro (fun h => fun w G2 cx => same 0 (by rw [e0, if_pos h]) cx) (fun h => fun w G2 cx => ?_)
  rw [if_neg (by rw [h]; simp)] at e0
  refine (Look_to hq hs hn hlen).toI (R := R ++ G) cx ?_
  clear cx
  refine Br.intro (fun h => fun w G2 cx => same _ (by rw [e0, if_pos (of_decide_eq_true h)]) cx) (fun h => fun w G2 cx => ?_)
  rw [if_neg (of_decide_eq_false h)] at e0
  obtain ⟨_, _, g3, _⟩ := look_ok (of_decide_eq_false h)
  refine (CloneK_sl (l := L) (by omega) fun x hx => by have := right_len (bad_right (g3 x hx)).2.2.1; omega).to cx fun p1 c1 f1 f2 st1 => ?_
  clear cx
  have hF2 : Has (fun M w => Φ M w ∧ Sl M w p1 L) (SkF q st) := ⟨fun M w h => hF.go M w h.1⟩
  refine fun w G3 cx => take_use (Φ := fun M w => Φ M w ∧ Sl M w p1 L) (R := R ++ G) (L := L) (b := b) hq hs hn hlen cx fun q1 hsb hq1 st2 => ?_
  rw [e0] at hk
  exact fun w G6 cx => ⟨0, rfl, SkO q1 (takeK st b L) ++ R, _, inferInstance, ((cx.left).re (by simp)).weak fun M w h => ⟨h.1.1, h.2⟩, hk q1 hsb hq1 inferInstance⟩

/-- what a call does, but for copying and reading again -/
theorem Do_use [Stable Φ] {op b : Int} [hF : Has Φ (SkF q st)] [hL : Has Φ (fun M w => Sl M w p L)] (hop : andZ op 7 ≠ 6 ∧ andZ op 7 ≠ 7) (hq : SkQ q st) (hI : SkI st) {n : Nat} (hs : SkS st n) (hn : n ≤ 400000) (hlen : L.length ≤ 400000) (c : Ctx W w ((SkO q st ++ R) ++ G) Φ) {K : Option Addr → Int → List Own → PW → Prop}
    (hk : ∀ q' : KP, q'.sb = q.sb → SkQ q' (opK (andZ op 7) st b L).2 → Stable (fun M w => Φ M w ∧ SkF q' (opK (andZ op 7) st b L).2 M w) → K (some ⟨q.sb, 0, none⟩) (opK (andZ op 7) st b L).1 (SkO q' (opK (andZ op 7) st b L).2 ++ R) (fun M w => Φ M w ∧ SkF q' (opK (andZ op 7) st b L).2 M w)) :
    Calls Tryz.prog F.erratalaw43_do #[snk q, .agg #[.int .i64 op, .int .i64 b, .slice p L.length cap]] w fun e w' => ∃ a n, e = .returned (.tuple #[.pointer a, .int .i64 n]) ∧ ∃ R' Φ', Stable Φ' ∧ Ctx W w' (R' ++ G) Φ' ∧ K a n R' Φ' := by
  refine (Berratalaw43_do_run q.sb 0 op b p L.length cap (R := (SkO q st ++ R) ++ G) (J := fun v w' => ∃ a n, v = .tuple #[.pointer a, .int .i64 n] ∧ ∃ R' Φ', Stable Φ' ∧ Ctx W w' (R' ++ G) Φ' ∧ K a n R' Φ') c ?_).mono fun e w' ⟨v, he, a, n, hv, rest⟩ => ⟨a, n, by rw [he, hv], rest⟩
  clear c
  refine fun _ => ⟨andZ op 7, fun w => and_run op 7 w, ?_⟩
  obtain ⟨k, hkk⟩ : ∃ k, andZ op 7 = k := ⟨_, rfl⟩
  rw [hkk] at hop hk ⊢
  have tail : ∀ {m : Int} {st' : SkD} (q' : KP), opK k st b L = (m, st') → q'.sb = q.sb → SkQ q' st' → ∀ {w : World} {G2 : List Own}, Ctx W w ((SkO q' st' ++ (R ++ G)) ++ G2) (fun M w => Φ M w ∧ SkF q' st' M w) → ∃ a n, Value.tuple #[.pointer (some ⟨q.sb, 0, none⟩), .int .i64 m] = .tuple #[.pointer a, .int .i64 n] ∧ ∃ R' Φ', Stable Φ' ∧ Ctx W w (R' ++ G) Φ' ∧ K a n R' Φ' := fun {m st'} q' h hsb hq' {w G2} cx => by
    rw [h] at hk
    exact ⟨_, m, rfl, SkO q' st' ++ R, _, inferInstance, (cx.left).re (by simp), hk q' hsb hq' inferInstance⟩
  have cP : opK k st b L = prepK st b L → ∀ {w : World} {G2 : List Own}, Ctx W w (((SkO q st ++ R) ++ G) ++ G2) Φ → _ := fun h {w G2} cx => Prepare_use (R := R ++ G) (G := G2) (b := b) (L := L) (cap := cap) (p := p) hq hI hs hn hlen (cx.re (by simp)) (K := fun m R' Φ' => ∀ (w : World) (G2 : List Own), Ctx W w (R' ++ G2) Φ' → ∃ a n, Value.tuple #[.pointer (some ⟨q.sb, 0, none⟩), .int .i64 m] = .tuple #[.pointer a, .int .i64 n] ∧ ∃ R' Φ', Stable Φ' ∧ Ctx W w (R' ++ G) Φ' ∧ K a n R' Φ') fun q' hsb hq' _ => fun w G2 cx => tail q' h hsb hq' cx
  have cC : opK k st b L = commK st b → ∀ {w : World} {G2 : List Own}, Ctx W w (((SkO q st ++ R) ++ G) ++ G2) Φ → _ := fun h {w G2} cx => Commit_use (R := R ++ G) (G := G2) (b := b) hq hI hs hn (cx.re (by simp)) (K := fun m R' Φ' => ∀ (w : World) (G2 : List Own), Ctx W w (R' ++ G2) Φ' → ∃ a n, Value.tuple #[.pointer (some ⟨q.sb, 0, none⟩), .int .i64 m] = .tuple #[.pointer a, .int .i64 n] ∧ ∃ R' Φ', Stable Φ' ∧ Ctx W w (R' ++ G) Φ' ∧ K a n R' Φ') fun q' hsb hq' _ => fun w G2 cx => tail q' h hsb hq' cx
  have cA : opK k st b L = abortK st b → ∀ {w : World} {G2 : List Own}, Ctx W w (((SkO q st ++ R) ++ G) ++ G2) Φ → _ := fun h {w G2} cx => Abort_use (R := R ++ G) (G := G2) (b := b) hq hI hs hn (cx.re (by simp)) (K := fun m R' Φ' => ∀ (w : World) (G2 : List Own), Ctx W w (R' ++ G2) Φ' → ∃ a n, Value.tuple #[.pointer (some ⟨q.sb, 0, none⟩), .int .i64 m] = .tuple #[.pointer a, .int .i64 n] ∧ ∃ R' Φ', Stable Φ' ∧ Ctx W w (R' ++ G) Φ' ∧ K a n R' Φ') fun q' hsb hq' _ => fun w G2 cx => tail q' h hsb hq' cx
  have cD : opK k st b L = delivK st b L → ∀ {w : World} {G2 : List Own}, Ctx W w (((SkO q st ++ R) ++ G) ++ G2) Φ → _ := fun h {w G2} cx => Deliver_use (R := R ++ G) (G := G2) (b := b) (L := L) (cap := cap) (p := p) hq hI hs hn hlen (cx.re (by simp)) (K := fun m R' Φ' => ∀ (w : World) (G2 : List Own), Ctx W w (R' ++ G2) Φ' → ∃ a n, Value.tuple #[.pointer (some ⟨q.sb, 0, none⟩), .int .i64 m] = .tuple #[.pointer a, .int .i64 n] ∧ ∃ R' Φ', Stable Φ' ∧ Ctx W w (R' ++ G) Φ' ∧ K a n R' Φ') fun q' hsb hq' _ => fun w G2 cx => tail q' h hsb hq' cx
  have e0 : opK k st b L = if k = 0 then prepK st b L else if k = 1 then prepK st b L else if k = 2 then commK st b else if k = 3 then abortK st b else if k = 6 then (0, st) else if k = 7 then (0, st) else delivK st b L := rfl
  have rest : k ≠ 0 → k ≠ 1 → opK k st b L = if k = 2 then commK st b else if k = 3 then abortK st b else if k = 6 then (0, st) else if k = 7 then (0, st) else delivK st b L := fun h h2 => by rw [e0, if_neg h, if_neg h2]
  refine Br.intro (fun h0 => ?_) (fun h0 => ?_)
  · refine Br.intro (fun _ => fun w G2 cx => cP (by rw [e0, if_pos (of_decide_eq_true h0)]) cx) (fun h => ?_)
    rw [h0] at h; cases h
  · refine Br.intro (fun h => fun w G2 cx => cP (by rw [e0, if_neg (of_decide_eq_false h0), if_pos (of_decide_eq_true h)]) cx) (fun h1 => ?_)
    have e1 := rest (of_decide_eq_false h0) (of_decide_eq_false h1)
    refine Br.intro (fun h => fun w G2 cx => cC (by rw [e1, if_pos (of_decide_eq_true h)]) cx) (fun h => ?_)
    rw [if_neg (of_decide_eq_false h)] at e1
    refine Br.intro (fun h => fun w G2 cx => cA (by rw [e1, if_pos (of_decide_eq_true h)]) cx) (fun h => ?_)
    rw [if_neg (of_decide_eq_false h)] at e1
    refine Br.intro (fun h => absurd (of_decide_eq_true h) hop.1) (fun h => ?_)
    rw [if_neg (of_decide_eq_false h)] at e1
    refine Br.intro (fun h => absurd (of_decide_eq_true h) hop.2) (fun h => ?_)
    rw [if_neg (of_decide_eq_false h)] at e1
    exact fun w G2 cx => cD e1 cx
end
end Go.Proofs.YtjlfpkgjcffilaaGreatDoor
end

/-
  Calls of a sink, as data; what the laws of sinks ask of their input; equal lines.
-/
section
set_option linter.unusedVariables false
set_option linter.unusedSimpArgs false
namespace Go.Proofs.YtjlfpkgjcffilaaGreatDoor
open Go.Vc


structure OpD where
  op : Int
  batch : Int
  l : List LineD
instance : Gv OpD := Gv.via (β := Int × Int × List LineD) (fun x => (x.op, x.batch, x.l)) (fun y => ⟨y.1, y.2.1, y.2.2⟩) (fun _ => rfl)
abbrev OpD.cells (x : OpD) (p : Option Addr) (c : Nat) : List Value := [.int .i64 x.op, .int .i64 x.batch, .slice p x.l.length c]
theorem op_cells {M : List Nat} {w : World} {cs : List Value} {x : OpD} (h : Gv.rep M w cs x) : ∃ p c, cs = x.cells p c ∧ x.l.length ≤ c ∧ c ≤ maxLen ∧ I64 x.op ∧ I64 x.batch ∧ Sl M w p x.l := by
  obtain ⟨_, _, rfl, ⟨rfl, h1⟩, _, _, rfl, ⟨rfl, h2⟩, ⟨p, c, rfl, g1, g2, g3⟩⟩ := h
  exact ⟨p, c, rfl, g1, g2, h1, h2, g3⟩
theorem pin_op {M : List Nat} {w : World} {b o : Nat} {cs : List (List Value)} {l : List OpD} (h : Pin b o cs l M w) {j : Nat} (hj : j < l.length) : ∃ p c, cs.getD j [] = l[j].cells p c ∧ l[j].l.length ≤ c ∧ c ≤ maxLen ∧ I64 l[j].op ∧ I64 l[j].batch := by
  obtain ⟨_, h1, h2⟩ := h j hj
  obtain ⟨p, c, e, g1, g2, g3, g4, _⟩ := op_cells h2
  exact ⟨p, c, e, g1, g2, g3, g4⟩
theorem pino_sl {M : List Nat} {w : World} {b o : Nat} {cs : List (List Value)} {l : List OpD} (h : Pin b o cs l M w) {j : Nat} (hj : j < l.length) {p : Option Addr} {c : Nat} (e : cs.getD j [] = l[j].cells p c) : Sl M w p l[j].l := by
  have := (h j hj).2.2
  rw [e] at this
  obtain ⟨p', c', e', _, _, _, _, h1⟩ := op_cells this
  simp only [OpD.cells, List.cons.injEq, Value.slice.injEq] at e'
  rw [e'.2.2.1.1]
  exact h1
theorem pino_rowAt {M : List Nat} {w : World} {b o : Nat} {cs : List (List Value)} {l : List OpD} (h : Pin b o cs l M w) {j : Nat} (hj : j < l.length) {p : Option Addr} {c : Nat} (e : cs.getD j [] = l[j].cells p c) : RowAt w b (o + j * 3) (l[j].cells p c) := by
  have := (h j hj).2.1
  rw [e] at this
  exact this

/-! ### bounds -/
def fewV (r : List ValD) : Bool := decide ((r.length : Int) ≤ 12) && r.all fun v => decide ((v.text.size : Int) ≤ 210)
def fewR (L : List LineD) (n : Int) : Bool := decide ((L.length : Int) ≤ n) && L.all fun x => fewV x.row
def fewO (l : List OpD) (n : Int) : Bool := decide ((l.length : Int) ≤ n) && l.all fun x => fewR x.l 8
theorem fewR_len {L : List LineD} {n : Int} (h : fewR L n = true) : (L.length : Int) ≤ n := of_decide_eq_true (Bool.and_eq_true_iff.1 h).1
section
variable {Φ : PW} {W w : World} {R S G : List Own} {p r : Option Addr} {cap cap2 : Nat}

set_option maxHeartbeats 1000000 in
theorem Few43_src [Stable Φ] {L : List LineD} {cs : List Value} {n : Int} (src : Src [] Φ p L cs) (hc : Rows7 cs L) (hlen : L.length ≤ maxLen) : GivesIn Φ Tryz.prog F.errataref43_Few #[.slice p L.length cap, .int .i64 n] (.bool (fewR L n)) := by
  refine gives_in (Berrataref43_Few_run p L.length cap n) fun W R => ?_
  unfold maxLen at hlen
  refine exI_mk (fun n1 R' Φ' k => ∃ i : Nat, n1 = i ∧ i ≤ L.length ∧ R' = R ∧ Φ' = Φ ∧ k = L.length - i ∧ (L.all fun x => fewV x.row) = (L.drop i).all fun x => fewV x.row) ⟨⟨R, Φ, _, inferInstance, fun w F c => c, 0, rfl, Nat.zero_le _, rfl, rfl, rfl, rfl⟩, ?_⟩
  rintro n1 R1 Φ1 k _ ⟨i, rfl, hi, rfl, rfl, rfl, hs⟩
  refine fun w G cx => Br.intro (fun hlt => ?_) (fun hge => fun w G cx => ⟨?_, cx.left⟩)
  · have hlt2 := Bool.and_eq_true_iff.1 hlt
    have hlt : i < L.length := by have := of_decide_eq_true hlt2.1; omega
    clear cx
    obtain ⟨b, o, hp⟩ := src.ptr (by omega)
    obtain ⟨r, rc, he, h1, h2, h3⟩ := hc i hlt
    unfold maxLen at h2
    have hh : Has Φ1 (fun M w => Sl M w r L[i].row) := ⟨fun M w h => src_sl src hlt he h⟩
    rw [List.drop_eq_getElem_cons hlt, List.all_cons] at hs
    have bad : fewV L[i].row = false → fewR L n = false := fun h => by unfold fewR; rw [hs, h, Bool.false_and, Bool.and_false]
    have hrow : ∀ {w : World} {G : List Own}, Ctx W w (R1 ++ G) Φ1 → w.cell? ⟨b, o + ((i : Nat) : Int).toNat * 7 + 3, none⟩ = some (.slice r L[i].row.length rc) := fun {w G} cx => by
      rw [Int.toNat_natCast]
      exact src_at (S := []) src hp cx he 3 (by show 3 < 7; decide)
    refine ⟨by omega, ptrK_intro b o hp fun w G cx => ⟨r, L[i].row.length, rc, hrow cx, Br.intro (fun h => fun w G cx => ⟨?_, cx.left⟩) (fun h12 => ?_)⟩⟩
    · rw [bad (by unfold fewV; rw [decide_eq_false (by have := of_decide_eq_true h; omega), Bool.false_and])]
    clear cx
    have h12 := of_decide_eq_false h12
    refine exI_mk (fun n2 R' Φ' k => ∃ j : Nat, n2 = j ∧ j ≤ L[i].row.length ∧ R' = R1 ∧ Φ' = Φ1 ∧ k = L[i].row.length - j ∧ (L[i].row.all fun v => decide ((v.text.size : Int) ≤ 210)) = (L[i].row.drop j).all fun v => decide ((v.text.size : Int) ≤ 210)) ⟨⟨R1, Φ1, _, inferInstance, fun w F c => c, 0, rfl, Nat.zero_le _, rfl, rfl, rfl, rfl⟩, ?_⟩
    rintro n2 R2 Φ2 k2 _ ⟨j, rfl, hj, rfl, rfl, rfl, hs2⟩
    refine ⟨by omega, ptrK_intro b o hp fun w G cx => ⟨r, L[i].row.length, rc, hrow cx, ?_⟩⟩
    have hth := (hh.go _ _ cx.phi).there
    clear cx
    refine Br.intro (fun hlt3 => ?_) (fun hge3 => ?_)
    · have hlt3 : j < L[i].row.length := by have := of_decide_eq_true hlt3; omega
      obtain ⟨g1, o1, hr⟩ := hth (by omega)
      rw [List.drop_eq_getElem_cons hlt3, List.all_cons] at hs2
      refine ⟨by omega, ptrK_intro b o hp fun w G cx => ⟨r, L[i].row.length, rc, hrow cx, by omega, ptrK_intro g1 o1 hr fun w G cx => ⟨L[i].row[j].text, ?_, Br.intro (fun h => fun w G cx => ⟨?_, cx.left⟩) (fun h => ⟨by unfold I64; omega, R2, Φ2, L[i].row.length - (j + 1), inferInstance, fun w G cx => cx, ⟨j + 1, rfl, hlt3, rfl, rfl, rfl, ?_⟩, by omega⟩)⟩⟩⟩
      · rw [Int.toNat_natCast]
        have := hh.go _ _ cx.phi
        rw [hr] at this
        exact sl_val this hlt3 2 (by simp)
      · rw [bad (by unfold fewV; rw [hs2, decide_eq_false (p := (L[i].row[j].text.size : Int) ≤ 210) (by have := of_decide_eq_true h; omega), Bool.false_and, Bool.and_false])]
      · rw [hs2, decide_eq_true (p := (L[i].row[j].text.size : Int) ≤ 210) (by have := of_decide_eq_false h; omega), Bool.true_and]
    · have hge3 : j = L[i].row.length := by have := of_decide_eq_false hge3; omega
      rw [hge3, List.drop_length] at hs2
      have hok : fewV L[i].row = true := by unfold fewV; rw [hs2, decide_eq_true (by omega)]; rfl
      exact ⟨by unfold I64; omega, R2, Φ2, L.length - (i + 1), inferInstance, fun w G cx => cx, ⟨i + 1, rfl, hlt, rfl, rfl, rfl, by rw [hs, hok, Bool.true_and]⟩, by omega⟩
  · unfold fewR
    rcases Bool.and_eq_false_iff.1 hge with h | h
    · have hge : i = L.length := by have := of_decide_eq_false h; omega
      rw [hge, List.drop_length] at hs
      rw [hs]
      show _ = Value.bool (_ && true)
      rw [Bool.and_true]
    · have : ¬ ((L.length : Int) ≤ n) := by have := of_decide_eq_false h; omega
      rw [decide_eq_false this, Bool.false_and]
theorem Few43_in [Stable Φ] {L : List LineD} {n : Int} [hΦ : Has Φ (fun M w => Sl M w p L)] (hlen : L.length ≤ maxLen) : GivesIn Φ Tryz.prog F.errataref43_Few #[.slice p L.length cap, .int .i64 n] (.bool (fewR L n)) :=
  ⟨fun W w S c => by
    have hth := (hΦ.go _ _ c.phi).there
    obtain ⟨cs, c1⟩ := srcOf c (hΦ.go _ _ c.phi)
    exact (Few43_src (Φ := fun M w => Φ M w ∧ SrcF p L cs M w) (src_fact (Φ := fun M w => Φ M w ∧ SrcF p L cs M w) hth (fun M w h => h.2)) (rows7 c1.phi.2.2) hlen).use c1 fun w' c => ⟨rfl, c.fst⟩⟩

theorem few43_in [Stable Φ] {l : List OpD} {n : Int} {g o : Nat} {cs : List (List Value)} (hp : 0 < l.length → p = some ⟨g, o, none⟩) (hP : ∀ M w, Φ M w → Pin g o cs l M w) (hlen : l.length ≤ maxLen) : GivesIn Φ Tryz.prog F.erratalaw43_few #[.slice p l.length cap, .int .i64 n] (.bool (fewO l n)) := by
  refine ⟨fun W0 w0 S0 c0 => GivesIn.go (gives_in (Berratalaw43_few_run p l.length cap n) fun W R => ?_) W0 w0 S0 c0⟩
  have hc : ∀ j (hj : j < l.length), ∃ p c, cs.getD j [] = l[j].cells p c ∧ l[j].l.length ≤ c ∧ c ≤ maxLen ∧ I64 l[j].op ∧ I64 l[j].batch := fun j hj => pin_op (hP _ _ c0.phi) hj
  clear c0
  refine exI_mk (fun n R' Φ' k => ∃ i : Nat, n = i ∧ i ≤ l.length ∧ R' = R ∧ Φ' = Φ ∧ k = l.length - i ∧ (l.take i).all (fun x => fewR x.l 8) = true) ⟨⟨R, Φ, _, inferInstance, fun w F c => c, 0, rfl, Nat.zero_le _, rfl, rfl, rfl, rfl⟩, ?_⟩
  rintro n1 R1 Φ1 k _ ⟨i, rfl, hi, rfl, rfl, rfl, hs⟩
  refine Br.intro (fun hlt => ?_) (fun hge => fun w G cx => ⟨?_, cx.left⟩)
  · have hlt : i < l.length := by have := of_decide_eq_true hlt; omega
    obtain ⟨r, rc, he, h1, h2, _⟩ := hc i hlt
    have hh : Has Φ1 (fun M w => Sl M w r l[i].l) := ⟨fun M w h => pino_sl (hP M w h) hlt he⟩
    refine ⟨by omega, ptrK_intro g o (hp (by omega)) fun w G cx => ⟨r, l[i].l.length, rc, ?_, fun w G cx => (Few43_in (L := l[i].l) (n := 8) (by omega)).toB cx ?_⟩⟩
    · have := pino_rowAt (hP _ _ cx.phi) hlt he 2 (by simp)
      rw [Int.toNat_natCast]
      exact this
    clear cx
    refine Br.intro (fun h => fun w G cx => ⟨?_, cx.left⟩) (fun h => ⟨by unfold I64; unfold maxLen at hlen; omega, R1, Φ1, l.length - (i + 1), inferInstance, fun w G cx => cx, ⟨i + 1, rfl, hlt, rfl, rfl, rfl, ?_⟩, by omega⟩)
    · have h : fewR l[i].l 8 = false := by simpa using h
      unfold fewO
      rw [List.all_eq_false.2 ⟨l[i], List.getElem_mem _, by rw [h]; simp⟩, Bool.and_false]
    · have h : fewR l[i].l 8 = true := by simpa using h
      rw [List.take_succ_eq_append_getElem hlt, List.all_append, hs]
      simp [h]
  · have hge : i = l.length := by have := of_decide_eq_false hge; omega
    subst hge
    rw [List.take_length] at hs
    unfold fewO
    rw [hs, Bool.and_true]

/-! ### equal lines -/
end
def sameL (x y : LineD) : Bool := decide (x.no = y.no) && decide (x.batch = y.batch) && decide (x.time = y.time) && decide (x.n = y.n) && decide (x.cause = y.cause) && decide (x.why = y.why) && decide (cmpR x.row y.row = 0)
theorem sameL_refl (x : LineD) : sameL x x = true := by unfold sameL; simp [cmpR_cmp.refl]
theorem sameL_eq {x y : LineD} (h : sameL x y = true) : x = y := by
  unfold sameL at h
  simp only [Bool.and_eq_true, decide_eq_true_eq] at h
  obtain ⟨⟨⟨⟨⟨⟨h1, h2⟩, h3⟩, h4⟩, h5⟩, h6⟩, h7⟩ := h
  have h7 := (cmpR_cmp.eq _ _).1 h7
  cases x; cases y
  simp_all
instance : DecidableEq LineD := fun x y => decidable_of_iff (sameL x y = true) ⟨sameL_eq, fun h => h ▸ sameL_refl x⟩
theorem sameL_dec (x y : LineD) : sameL x y = decide (x = y) := by
  cases h : sameL x y with
  | true => exact (decide_eq_true (sameL_eq h)).symm
  | false => exact (decide_eq_false fun e => by rw [e, sameL_refl] at h; cases h).symm
theorem eq_drop {a b : List LineD} {i : Nat} (ha : i < a.length) (hb : i < b.length) : decide (a.drop i = b.drop i) = (sameL a[i] b[i] && decide (a.drop (i + 1) = b.drop (i + 1))) := by
  rw [List.drop_eq_getElem_cons ha, List.drop_eq_getElem_cons hb, sameL_dec, ← Bool.decide_and]
  exact decide_eq_decide.2 (by rw [List.cons.injEq])

section
variable {Φ : PW} {W w : World} {R S G : List Own} {p r : Option Addr} {cap cap2 : Nat}
theorem rSame03_in [Stable Φ] {a b : List ValD} [hA : Has Φ (fun M w => Sl M w p a)] [hB : Has Φ (fun M w => Sl M w r b)] (hlen : a.length ≤ 1000000) : GivesIn Φ Tryz.prog F.errataref03_Same #[.slice p a.length cap, .slice r b.length cap2] (.bool (decide (cmpR a b = 0))) :=
  gives_in (Berrataref03_Same_run p a.length cap r b.length cap2) fun W R => fun w G cx => (rCompareRows_in p r cap cap2 a b hA.go hB.go (by omega)).toI cx fun w G cx => ⟨rfl, cx.left⟩
set_option maxHeartbeats 1000000 in
theorem SameLines_src [Stable Φ] {a b : List LineD} {cs ds : List Value} (srcA : Src [] Φ p a cs) (srcB : Src [] Φ r b ds) (hca : Rows7 cs a) (hcb : Rows7 ds b) (hlen : a.length ≤ 1000000) (hrow : ∀ x ∈ a, x.row.length ≤ 1000000) :
    GivesIn Φ Tryz.prog F.errataref43_SameLines #[.slice p a.length cap, .slice r b.length cap2] (.bool (decide (a = b))) := by
  refine gives_in (Berrataref43_SameLines_run p a.length cap r b.length cap2) fun W R => Br.intro (fun h => fun w G cx => ⟨?_, cx.left⟩) (fun h => ?_)
  · rw [decide_eq_false fun e => of_decide_eq_true h (by rw [e])]
  have hab : a.length = b.length := by have := Decidable.not_not.1 (of_decide_eq_false h); omega
  refine exI_mk (fun n1 R' Φ' k => ∃ i : Nat, n1 = i ∧ i ≤ a.length ∧ R' = R ∧ Φ' = Φ ∧ k = a.length - i ∧ decide (a = b) = decide (a.drop i = b.drop i)) ⟨⟨R, Φ, _, inferInstance, fun w F c => c, 0, rfl, Nat.zero_le _, rfl, rfl, rfl, rfl⟩, ?_⟩
  rintro n1 R1 Φ1 k _ ⟨i, rfl, hi, rfl, rfl, rfl, hs⟩
  refine Br.intro (fun hlt => ?_) (fun hge => fun w G cx => ⟨?_, cx.left⟩)
  · have hlt : i < a.length := by have := of_decide_eq_true hlt; omega
    have hlb : i < b.length := by omega
    obtain ⟨b1, o1, hp⟩ := srcA.ptr (by omega)
    obtain ⟨b2, o2, hr⟩ := srcB.ptr (by omega)
    obtain ⟨ra, rca, hea, _, _, _⟩ := hca i hlt
    obtain ⟨rb, rcb, heb, _, _, _⟩ := hcb i hlb
    have hA : Has Φ1 (fun M w => Sl M w ra a[i].row) := ⟨fun M w h => src_sl srcA hlt hea h⟩
    have hB : Has Φ1 (fun M w => Sl M w rb b[i].row) := ⟨fun M w h => src_sl srcB hlb heb h⟩
    rw [eq_drop hlt hlb] at hs
    have stop : sameL a[i] b[i] = false → ∀ {w : World} {G : List Own}, Ctx W w (R1 ++ G) Φ1 → Value.bool false = .bool (decide (a = b)) ∧ Ctx W w R1 Φ1 := fun h {w G} cx => ⟨by rw [hs, h, Bool.false_and], cx.left⟩
    refine ⟨by omega, ptrK_intro b1 o1 hp fun w G cx => ⟨a[i].no, a[i].batch, a[i].time, ra, a[i].row.length, rca, a[i].n, a[i].cause, a[i].why, by rw [Int.toNat_natCast]; exact src_at (S := []) srcA hp cx hea, fun _ => ⟨by omega, ptrK_intro b2 o2 hr fun w G cx => ⟨b[i].no, b[i].batch, b[i].time, rb, b[i].row.length, rcb, b[i].n, b[i].cause, b[i].why, by rw [Int.toNat_natCast]; exact src_at (S := []) srcB hr cx heb, fun _ => ?_⟩⟩⟩⟩
    clear cx
    refine Br.intro (fun h => fun w G cx => stop (by unfold sameL; rw [decide_eq_false (of_decide_eq_true h)]; rfl) cx) (fun g1 => ?_)
    refine Br.intro (fun h => fun w G cx => stop (by unfold sameL; rw [decide_eq_false (p := a[i].batch = b[i].batch) (of_decide_eq_true h)]; simp) cx) (fun g2 => ?_)
    refine Br.intro (fun h => fun w G cx => stop (by unfold sameL; rw [decide_eq_false (p := a[i].time = b[i].time) (of_decide_eq_true h)]; simp) cx) (fun g3 => ?_)
    refine Br.intro (fun h => fun w G cx => stop (by unfold sameL; rw [decide_eq_false (p := a[i].n = b[i].n) (of_decide_eq_true h)]; simp) cx) (fun g4 => ?_)
    refine Br.intro (fun h => fun w G cx => stop (by unfold sameL; rw [decide_eq_false (p := a[i].cause = b[i].cause) (of_decide_eq_true h)]; simp) cx) (fun g5 => ?_)
    refine Br.intro (fun h => fun w G cx => stop (by unfold sameL; rw [decide_eq_false (p := a[i].why = b[i].why) (of_decide_eq_true h)]; simp) cx) (fun g6 => fun w G cx => (rSame03_in (a := a[i].row) (b := b[i].row) (hrow _ (List.getElem_mem _))).toB cx ?_)
    clear cx
    have hse : sameL a[i] b[i] = decide (cmpR a[i].row b[i].row = 0) := by
      unfold sameL
      rw [decide_eq_true (Decidable.not_not.1 (of_decide_eq_false g1)), decide_eq_true (Decidable.not_not.1 (of_decide_eq_false g2)), decide_eq_true (Decidable.not_not.1 (of_decide_eq_false g3)), decide_eq_true (Decidable.not_not.1 (of_decide_eq_false g4)), decide_eq_true (Decidable.not_not.1 (of_decide_eq_false g5)), decide_eq_true (Decidable.not_not.1 (of_decide_eq_false g6))]
      rfl
    rw [← hse]
    refine Br.intro (fun h => fun w G cx => stop (by simpa using h) cx) (fun h => ⟨by unfold I64; omega, R1, Φ1, a.length - (i + 1), inferInstance, fun w G cx => cx, ⟨i + 1, rfl, hlt, rfl, rfl, rfl, ?_⟩, by omega⟩)
    have h : sameL a[i] b[i] = true := by simpa using h
    rw [hs, h, Bool.true_and]
  · have hge : i = a.length := by have := of_decide_eq_false hge; omega
    rw [hs, hge, List.drop_length, hab, List.drop_length]
    rfl
theorem SameLines_in [Stable Φ] {a b : List LineD} [hA : Has Φ (fun M w => Sl M w p a)] [hB : Has Φ (fun M w => Sl M w r b)] (hlen : a.length ≤ 1000000) (hrow : ∀ x ∈ a, x.row.length ≤ 1000000) :
    GivesIn Φ Tryz.prog F.errataref43_SameLines #[.slice p a.length cap, .slice r b.length cap2] (.bool (decide (a = b))) :=
  ⟨fun W w S c => by
    have hth := (hA.go _ _ c.phi).there
    have hth2 := (hB.go _ _ c.phi).there
    obtain ⟨cs, c1⟩ := srcOf c (hA.go _ _ c.phi)
    obtain ⟨ds, c2⟩ := srcOf c1 (hB.go _ _ c.phi)
    exact (SameLines_src (Φ := fun M w => (Φ M w ∧ SrcF p a cs M w) ∧ SrcF r b ds M w) (src_fact (Φ := fun M w => (Φ M w ∧ SrcF p a cs M w) ∧ SrcF r b ds M w) hth (fun M w h => h.1.2)) (src_fact (Φ := fun M w => (Φ M w ∧ SrcF p a cs M w) ∧ SrcF r b ds M w) hth2 (fun M w h => h.2)) (rows7 c2.phi.1.2.2) (rows7 c2.phi.2.2) hlen hrow).use c2 fun w' c => ⟨rfl, c.fst.fst⟩⟩
end
end Go.Proofs.YtjlfpkgjcffilaaGreatDoor
end

/-
  Calls of a sink, in plain Lean: what stays.
-/
section
set_option linter.unusedVariables false
set_option linter.unusedSimpArgs false
namespace Go.Proofs.YtjlfpkgjcffilaaGreatDoor
open Go.Vc


/-- a prepared batch comes after the others; only one kind of sink prepares -/
def PrepI (s : SkD) : Prop := s.prep ≠ 0 → s.kind = 0 ∧ lastK s < s.prep
theorem PrepI.ok {s : SkD} (h : PrepI s) : PrepOk s := fun h0 => (h h0).2

theorem prep_cases (s : SkD) (b : Int) (L : List LineD) : (prepK s b L).2 = s ∧ ((prepK s b L).1 = 0 → hasK s b = true) ∨ s.kind = 0 ∧ hasK s b = false ∧ ¬ lookK s b L ≠ 0 ∧ prepK s b L = (0, { s with prep := b, aside := L }) := by
  unfold prepK
  split
  · exact .inl ⟨rfl, fun h => by simp at h⟩
  split
  · rename_i h; exact .inl ⟨rfl, fun _ => h⟩
  split
  · rename_i h; exact .inl ⟨rfl, fun h2 => absurd h2 h⟩
  rename_i h1 h2 h3
  exact .inr ⟨Decidable.not_not.1 h1, by simpa using h2, h3, rfl⟩
theorem comm_cases (s : SkD) (b : Int) : (commK s b).2 = s ∧ ((commK s b).1 = 0 → hasK s b = true) ∨ s.kind = 0 ∧ hasK s b = false ∧ 1 ≤ b ∧ b = s.prep ∧ commK s b = (0, { takeK s b s.aside with prep := 0, aside := [] }) := by
  unfold commK
  split
  · exact .inl ⟨rfl, fun h => by simp at h⟩
  split
  · rename_i h; exact .inl ⟨rfl, fun _ => h⟩
  split
  · rename_i h; exact .inl ⟨rfl, fun h2 => by simp at h2⟩
  rename_i h1 h2 h3
  simp only [Bool.or_eq_true, decide_eq_true_eq, not_or, Int.not_lt, ne_eq, Decidable.not_not] at h3
  exact .inr ⟨Decidable.not_not.1 h1, by simpa using h2, h3.1, h3.2, rfl⟩
theorem abort_cases (s : SkD) (b : Int) : (abortK s b).2 = s ∧ (abortK s b).1 ≠ 0 ∨ s.kind = 0 ∧ 1 ≤ b ∧ b = s.prep ∧ abortK s b = (0, { s with prep := 0, aside := [] }) := by
  unfold abortK
  split
  · exact .inl ⟨rfl, by simp⟩
  split
  · exact .inl ⟨rfl, by simp⟩
  split
  · exact .inl ⟨rfl, by simp⟩
  rename_i h1 h2 h3
  simp only [Bool.or_eq_true, decide_eq_true_eq, not_or, Int.not_lt, ne_eq, Decidable.not_not] at h3
  exact .inr ⟨Decidable.not_not.1 h1, h3.1, h3.2, rfl⟩
theorem deliv_cases (s : SkD) (b : Int) (L : List LineD) : (delivK s b L).2 = s ∧ ((delivK s b L).1 = 0 → s.kind ≠ 0 ∧ hasK s b = true) ∨ s.kind ≠ 0 ∧ hasK s b = false ∧ ¬ lookK s b L ≠ 0 ∧ delivK s b L = (0, takeK s b L) := by
  unfold delivK
  split
  · exact .inl ⟨rfl, fun h => by simp at h⟩
  rename_i h0
  split
  · rename_i h; exact .inl ⟨rfl, fun _ => ⟨h0, h⟩⟩
  split
  · rename_i h; exact .inl ⟨rfl, fun h2 => absurd h2 h⟩
  rename_i h2 h3
  exact .inr ⟨h0, by simpa using h2, h3, rfl⟩
theorem prep_p {s : SkD} (hp : PrepI s) (b : Int) (L : List LineD) : PrepI (prepK s b L).2 := by
  rcases prep_cases s b L with ⟨h, _⟩ | ⟨h0, _, h2, h⟩
  · rw [h]; exact hp
  · rw [h]; exact fun _ => ⟨h0, (look_ok h2).2.1⟩
theorem comm_p {s : SkD} (hp : PrepI s) (b : Int) : PrepI (commK s b).2 := by
  rcases comm_cases s b with ⟨h, _⟩ | ⟨_, _, _, _, h⟩
  · rw [h]; exact hp
  · rw [h]; exact fun h => absurd rfl h
theorem abort_p {s : SkD} (hp : PrepI s) (b : Int) : PrepI (abortK s b).2 := by
  rcases abort_cases s b with ⟨h, _⟩ | ⟨_, _, _, h⟩
  · rw [h]; exact hp
  · rw [h]; exact fun h => absurd rfl h
theorem deliv_p {s : SkD} (hp : PrepI s) (b : Int) (L : List LineD) : PrepI (delivK s b L).2 := by
  rcases deliv_cases s b L with ⟨h, _⟩ | ⟨h0, _, _, h⟩
  · rw [h]; exact hp
  · rw [h]; exact fun h2 => absurd (hp h2).1 h0

theorem op_i {s : SkD} (hI : SkI s) (hp : PrepI s) {b : Int} (h : I64 b) (k : Int) (L : List LineD) : SkI (opK k s b L).2 ∧ PrepI (opK k s b L).2 := by
  unfold opK
  split
  · exact ⟨prep_i hI, prep_p hp b L⟩
  split
  · exact ⟨prep_i hI, prep_p hp b L⟩
  split
  · exact ⟨comm_i hI hp.ok h, comm_p hp b⟩
  split
  · exact ⟨abort_i hI, abort_p hp b⟩
  split
  · exact ⟨hI, hp⟩
  split
  · exact ⟨hI, hp⟩
  · exact ⟨deliv_i hI h, deliv_p hp b L⟩
theorem SkS.up {s : SkD} {n m : Nat} (h : SkS s n) (hm : n ≤ m) : SkS s m := ⟨by have := h.bats; omega, by have := h.lines; omega, by have := h.aside; omega, by have := h.key; omega⟩
theorem take_s {s : SkD} {n m : Nat} (h : SkS s n) (b : Int) {L : List LineD} (hL : L.length ≤ m) (hm : 1 ≤ m) : SkS (takeK s b L) (n + m) :=
  ⟨by show (s.bats ++ [b]).length ≤ _; rw [List.length_append, List.length_singleton]; have := h.bats; omega, by show (s.lines ++ L).length ≤ _; rw [List.length_append]; have := h.lines; omega, by show s.aside.length ≤ _; have := h.aside; omega, by show s.key.length ≤ _; have := h.key; omega⟩
theorem op_s {s : SkD} {n : Nat} (h : SkS s n) (ha : s.aside.length ≤ 8) (k b : Int) {L : List LineD} (hL : L.length ≤ 8) : SkS (opK k s b L).2 (n + 8) ∧ (opK k s b L).2.aside.length ≤ 8 := by
  have hs : SkS s (n + 8) := h.up (by omega)
  have hP : SkS (prepK s b L).2 (n + 8) ∧ (prepK s b L).2.aside.length ≤ 8 := by
    rcases prep_cases s b L with ⟨h, _⟩ | ⟨h0, _, h2, h⟩
    · rw [h]; exact ⟨hs, ha⟩
    · rw [h]; exact ⟨⟨hs.bats, hs.lines, by show L.length ≤ _; omega, hs.key⟩, hL⟩
  unfold opK
  split
  · exact hP
  split
  · exact hP
  split
  · rcases comm_cases s b with ⟨h, _⟩ | ⟨_, _, _, _, h1⟩
    · rw [h]; exact ⟨hs, ha⟩
    · rw [h1]
      have := take_s h b ha (by omega)
      exact ⟨⟨this.bats, this.lines, Nat.zero_le _, this.key⟩, Nat.zero_le _⟩
  split
  · rcases abort_cases s b with ⟨h, _⟩ | ⟨_, _, _, h⟩
    · rw [h]; exact ⟨hs, ha⟩
    · rw [h]; exact ⟨⟨hs.bats, hs.lines, Nat.zero_le _, hs.key⟩, Nat.zero_le _⟩
  split
  · exact ⟨hs, ha⟩
  split
  · exact ⟨hs, ha⟩
  · rcases deliv_cases s b L with ⟨h, _⟩ | ⟨_, _, _, h1⟩
    · rw [h]; exact ⟨hs, ha⟩
    · rw [h1]; exact ⟨take_s h b hL (by omega), ha⟩
theorem op_kind (s : SkD) (k b : Int) (L : List LineD) : (opK k s b L).2.kind = s.kind ∧ (opK k s b L).2.key = s.key := by
  have hP : (prepK s b L).2.kind = s.kind ∧ (prepK s b L).2.key = s.key := by
    rcases prep_cases s b L with ⟨h, _⟩ | ⟨_, _, _, h⟩ <;> rw [h] <;> exact ⟨rfl, rfl⟩
  unfold opK
  split
  · exact hP
  split
  · exact hP
  split
  · rcases comm_cases s b with ⟨h, _⟩ | ⟨_, _, _, _, h⟩ <;> rw [h] <;> exact ⟨rfl, rfl⟩
  split
  · rcases abort_cases s b with ⟨h, _⟩ | ⟨_, _, _, h⟩ <;> rw [h] <;> exact ⟨rfl, rfl⟩
  split
  · exact ⟨rfl, rfl⟩
  split
  · exact ⟨rfl, rfl⟩
  · rcases deliv_cases s b L with ⟨h, _⟩ | ⟨_, _, _, h⟩ <;> rw [h] <;> exact ⟨rfl, rfl⟩

/-! ### a sink that hides -/
/-- what a call of such a sink brings: a prepared batch, a committed one, or neither -/
inductive Hid (k : Int) (s : SkD) (b : Int) (L : List LineD) : Prop
  | prep (hk : k < 2) (hh : hasK s b = false) (e : opK k s b L = (0, { s with prep := b, aside := L }))
  | comm (hk : k = 2) (hh : hasK s b = false) (h1 : 1 ≤ b) (hb : b = s.prep) (e : opK k s b L = (0, { takeK s b s.aside with prep := 0, aside := [] }))
  | abort (hk : k = 3) (hb : b = s.prep) (e : opK k s b L = (0, { s with prep := 0, aside := [] }))
  | none (e : (opK k s b L).2 = s) (h : (opK k s b L).1 = 0 → hasK s b = true) (h3 : k = 3 → (opK k s b L).1 ≠ 0)
theorem hid {s : SkD} (h0 : s.kind = 0) {k : Int} (hk : k ≤ 3) (b : Int) (L : List LineD) : Hid k s b L := by
  have e0 : opK k s b L = if k = 0 then prepK s b L else if k = 1 then prepK s b L else if k = 2 then commK s b else if k = 3 then abortK s b else if k = 6 then (0, s) else if k = 7 then (0, s) else delivK s b L := rfl
  have hP : k < 2 → opK k s b L = prepK s b L → Hid k s b L := fun hk e => by
    rcases prep_cases s b L with ⟨h, h2⟩ | ⟨_, h2, _, h⟩
    · exact .none (by rw [e]; exact h) (by rw [e]; exact h2) (fun h => by omega)
    · exact .prep hk h2 (by rw [e]; exact h)
  by_cases k0 : k = 0
  · exact hP (by omega) (by rw [e0, if_pos k0])
  rw [if_neg k0] at e0
  by_cases k1 : k = 1
  · exact hP (by omega) (by rw [e0, if_pos k1])
  rw [if_neg k1] at e0
  by_cases k2 : k = 2
  · rw [if_pos k2] at e0
    rcases comm_cases s b with ⟨h, h2⟩ | ⟨_, h2, h3, h4, h⟩
    · exact .none (by rw [e0]; exact h) (by rw [e0]; exact h2) (fun h => by omega)
    · exact .comm k2 h2 h3 h4 (by rw [e0]; exact h)
  rw [if_neg k2] at e0
  by_cases k3 : k = 3
  · rw [if_pos k3] at e0
    rcases abort_cases s b with ⟨h, h2⟩ | ⟨_, h3, h4, h⟩
    · exact .none (by rw [e0]; exact h) (by rw [e0]; exact fun h => absurd h h2) (fun _ => by rw [e0]; exact h2)
    · exact .abort k3 h4 (by rw [e0]; exact h)
  rw [if_neg k3, if_neg (by omega), if_neg (by omega)] at e0
  rcases deliv_cases s b L with ⟨h, h2⟩ | ⟨h2, _⟩
  · exact .none (by rw [e0]; exact h) (by rw [e0]; exact fun h => absurd h0 (h2 h).1) (fun h => absurd h k3)
  · exact absurd h0 h2
end Go.Proofs.YtjlfpkgjcffilaaGreatDoor
end

/-
  Short rows, and rows that are the same: walked (for seats without the place's functions).
-/
section
set_option linter.unusedVariables false
set_option linter.unusedSimpArgs false
namespace Go.Proofs.YtjlfpkgjcffilaaGreatDoor
open Go.Vc


abbrev ValD.cells (x : ValD) : List Value := [.int .i64 x.kind, .int .i64 x.num, .string x.text]
theorem val_rep {M : List Nat} {w : World} {v : ValD} (h : (I64 v.kind ∧ I64 v.num) ∧ v.text.size ≤ maxLen) : Gv.rep M w v.cells v :=
  ⟨[.int .i64 v.kind], [.int .i64 v.num, .string v.text], rfl, ⟨rfl, h.1.1⟩, [.int .i64 v.num], [.string v.text], rfl, ⟨rfl, h.1.2⟩, rfl, h.2⟩
section
variable {Φ : PW} {p q : Option Addr} {cap cap2 : Nat} {r a b : List ValD} {W w : World} {R G : List Own}

end
end Go.Proofs.YtjlfpkgjcffilaaGreatDoor
end

/-
  The examples of the laws of sinks, walked.
-/
section
set_option linter.unusedVariables false
set_option linter.unusedSimpArgs false
namespace Go.Proofs.YtjlfpkgjcffilaaGreatDoor
open Go.Vc


abbrev vN (no : Int) : List ValD := [⟨0, no, ByteArray.mk #[]⟩]
abbrev lineD (no b : Int) : LineD := ⟨no, b, no, vN no, 1, 0, 0⟩
theorem vN_rep {M : List Nat} {w : World} {no : Int} (h : I64 no) : Gv.rep M w [.int .i64 0, .int .i64 no, .string (ByteArray.mk #[])] (⟨0, no, ByteArray.mk #[]⟩ : ValD) := val_rep (v := ⟨0, no, ByteArray.mk #[]⟩) ⟨⟨by show I64 0; unfold I64; decide, h⟩, by show (ByteArray.mk #[]).size ≤ maxLen; decide⟩
theorem lineD_rep {M : List Nat} {w : World} {no b : Int} {p : Option Addr} {c : Nat} (h : I64 no ∧ I64 b) (hc : 1 ≤ c ∧ c ≤ maxLen) (hs : Sl M w p (vN no)) : Gv.rep M w [.int .i64 no, .int .i64 b, .int .i64 no, .slice p 1 c, .int .i64 1, .int .i64 0, .int .i64 0] (lineD no b) :=
  rep_line (x := lineD no b) hc.1 hc.2 ⟨h.1, h.2, h.1, by show I64 1; unfold I64; omega, by show I64 0; unfold I64; omega, by show I64 0; unfold I64; omega⟩ hs

theorem Ctx.swapQ {W w : World} {A B R G : List Own} {Φ : PW} [Stable Φ] (c : Ctx W w ((A ++ (B ++ R)) ++ G) Φ) : Ctx W w ((B ++ (A ++ R)) ++ G) Φ := c.perm (by
  simp only [List.append_assoc]
  rw [← List.append_assoc, ← List.append_assoc B A]
  exact List.Perm.append_right _ List.perm_append_comm)

section
variable {Φ : PW} {q : KP} {st : SkD} {W w : World} {R S G : List Own} {p : Option Addr} {cap : Nat} {L : List LineD}

theorem line_to [Stable Φ] {no b : Int} (h : I64 no) (c : Ctx W w (R ++ G) Φ) {K : Int → Int → Int → Option Addr → Nat → Nat → Int → Int → Int → List Own → PW → Prop}
    (hk : ∀ k, Stable (fun M w => Φ M w ∧ Sl M w (some ⟨k, 0, none⟩) (vN no)) → K no b no (some ⟨k, 0, none⟩) 1 1 1 0 0 R (fun M w => Φ M w ∧ Sl M w (some ⟨k, 0, none⟩) (vN no))) :
    Calls Tryz.prog F.erratalaw43_line #[.int .i64 no, .int .i64 b] w fun e w' => ∃ n1 n2 n3 p k1 k2 n4 n5 n6, e = .returned (.agg #[.int .i64 n1, .int .i64 n2, .int .i64 n3, .slice p k1 k2, .int .i64 n4, .int .i64 n5, .int .i64 n6]) ∧ ∃ R' Φ', Stable Φ' ∧ Ctx W w' (R' ++ G) Φ' ∧ K n1 n2 n3 p k1 k2 n4 n5 n6 R' Φ' := by
  refine (Berratalaw43_line_run no b (R := R ++ G) (J := fun v w' => ∃ n1 n2 n3 p k1 k2 n4 n5 n6, v = .agg #[.int .i64 n1, .int .i64 n2, .int .i64 n3, .slice p k1 k2, .int .i64 n4, .int .i64 n5, .int .i64 n6] ∧ ∃ R' Φ', Stable Φ' ∧ Ctx W w' (R' ++ G) Φ' ∧ K n1 n2 n3 p k1 k2 n4 n5 n6 R' Φ') c ?_).mono fun e w' ⟨v, he, n1, n2, n3, p, k1, k2, n4, n5, n6, hv, rest⟩ => ⟨n1, n2, n3, p, k1, k2, n4, n5, n6, by rw [he, hv], rest⟩
  clear c
  intro _ k w2 G2 cx
  obtain ⟨c2, h2⟩ := Ctx.freezeBlk (α := ValD) (l := vN no) cx (Elems.one (vN_rep h))
  have c3 := c2.add (Ψ := fun M w => Sl M w (some ⟨k, 0, none⟩) (vN no)) h2
  exact ⟨_, _, _, _, _, _, _, _, _, rfl, R, _, inferInstance, c3.left, hk k inferInstance⟩

theorem Deliver_at [Stable Φ] {b m : Int} {st' : SkD} (he : delivK st b L = (m, st')) [hF : Has Φ (SkF q st)] [hL : Has Φ (fun M w => Sl M w p L)] (hq : SkQ q st) (hI : SkI st) {n : Nat} (hs : SkS st n) (hn : n ≤ 400000) (hlen : L.length ≤ 400000) (c : Ctx W w ((SkO q st ++ R) ++ G) Φ) {K : Int → List Own → PW → Prop}
    (hk : ∀ q' : KP, q'.sb = q.sb → SkQ q' st' → Stable (fun M w => Φ M w ∧ SkF q' st' M w) → K m (SkO q' st' ++ R) (fun M w => Φ M w ∧ SkF q' st' M w)) :
    Calls Tryz.prog F.sink_Sink_Deliver #[snk q, .int .i64 b, .slice p L.length cap] w fun e w' => ∃ n, e = .returned (.int .i64 n) ∧ ∃ R' Φ', Stable Φ' ∧ Ctx W w' (R' ++ G) Φ' ∧ K n R' Φ' :=
  Deliver_use hq hI hs hn hlen c (by rw [he]; exact hk)
end

/-! ### small -/
abbrev sK0 : SkD := newK 2 []
abbrev sLa : List LineD := [lineD 3 5]
abbrev sLb : List LineD := [lineD 1 3, lineD 2 3]
abbrev sKa : SkD := takeK sK0 3 sLb
abbrev sKb : SkD := takeK sKa 5 sLa
theorem s_l1 : lookK sK0 5 sLa = 25 := by decide +kernel
theorem s_l2 : lookK sK0 3 sLb = 0 := by decide +kernel
theorem s_l3 : lookK sKa 5 sLa = 0 := by decide +kernel
theorem s_l4 : lookK sKb 4 [] = 25 := by decide +kernel
theorem s_d1 : delivK sK0 5 sLa = (25, sK0) := by
  unfold delivK
  rw [if_neg (by decide), if_neg (by decide), if_pos (by rw [s_l1]; decide), s_l1]
theorem s_d2 : delivK sK0 3 sLb = (0, sKa) := by
  unfold delivK
  rw [if_neg (by decide), if_neg (by decide), if_neg (by rw [s_l2]; decide)]
theorem s_d3 : delivK sKa 5 sLa = (0, sKb) := by
  unfold delivK
  rw [if_neg (by decide), if_neg (by decide), if_neg (by rw [s_l3]; decide)]
theorem s_d4 : delivK sKb 4 [] = (25, sKb) := by
  unfold delivK
  rw [if_neg (by decide), if_neg (by decide), if_pos (by rw [s_l4]; decide), s_l4]
theorem s_ia : SkI sKa := by
  have := deliv_i (new_i 2 []) (b := 3) (L := sLb) (by unfold I64; decide)
  rw [s_d2] at this
  exact this
theorem s_ib : SkI sKb := by
  have := deliv_i s_ia (b := 5) (L := sLa) (by unfold I64; decide)
  rw [s_d3] at this
  exact this
theorem s_s0 : SkS sK0 10 := ⟨by decide, by decide, by decide, by decide⟩
theorem s_sa : SkS sKa 10 := ⟨by decide, by decide, by decide, by decide⟩
theorem s_sb : SkS sKb 10 := ⟨by decide, by decide, by decide, by decide⟩
theorem nilZ {M : List Nat} {w : World} : Sl M w none ([] : List Int) := fun i hi => absurd hi (by simp)
theorem nilL {M : List Nat} {w : World} : Sl M w none ([] : List LineD) := fun i hi => absurd hi (by simp)

set_option maxHeartbeats 4000000 in
theorem small43_in {Φ : PW} [Stable Φ] : GivesIn Φ Tryz.prog F.erratalaw43_small #[] (.bool true) := by
  refine gives_in (Berratalaw43_small_run) fun W R => ?_
  have hz : ∀ Ψ : PW, Has Ψ (fun M w => Sl M w none ([] : List Int)) := fun Ψ => ⟨fun M w _ => nilZ⟩
  have hzl : ∀ Ψ : PW, Has Ψ (fun M w => Sl M w none ([] : List LineD)) := fun Ψ => ⟨fun M w _ => nilL⟩
  refine fun w G cx => New_to (hΦ := hz _) (key := []) (kind := 2) (by decide) cx (fun h => absurd h (by decide)) fun q1 _ hq1 st1 => ?_
  clear cx
  refine fun w G cx => New_to (hΦ := hz _) (key := []) (kind := 2) (by decide) cx (fun h => absurd h (by decide)) fun q2 _ hq2 st2 => ?_
  clear cx
  refine fun w G cx => Br.intro (fun h => by cases h) (fun _ => ?_)
  refine fun w G cx => line_to (no := 3) (b := 5) (by unfold I64; decide) (Ctx.swapQ cx) fun k1 st3 => ?_
  clear cx
  intro k33 w G cx
  obtain ⟨ca, ha⟩ := Ctx.freezeBlk (α := LineD) (l := sLa) cx (Elems.one (lineD_rep (by unfold I64; decide) (by decide) cx.phi.2))
  have ca := ca.add (Ψ := fun M w => Sl M w (some ⟨k33, 0, none⟩) sLa) ha
  clear cx ha
  refine Deliver_at (q := q1) (st := sK0) (L := sLa) (b := 5) s_d1 hq1 (new_i 2 []) s_s0 (by decide) (by decide) ca fun q3 hsb3 hq3 st4 => ?_
  clear ca
  rw [← hsb3]
  refine fun w G cx => line_to (no := 1) (b := 3) (by unfold I64; decide) cx fun k2 st5 => ?_
  clear cx
  refine fun w G cx => line_to (no := 2) (b := 3) (by unfold I64; decide) cx fun k3 st6 => ?_
  clear cx
  intro k71 w G cx
  obtain ⟨ca, ha⟩ := Ctx.freezeBlk (α := LineD) (l := sLb) cx (Elems.two (cs := [.int .i64 1, .int .i64 3, .int .i64 1, .slice (some ⟨k2, 0, none⟩) 1 1, .int .i64 1, .int .i64 0, .int .i64 0]) (lineD_rep (by unfold I64; decide) (by decide) cx.phi.1.2) (lineD_rep (by unfold I64; decide) (by decide) cx.phi.2))
  have ca := ca.add (Ψ := fun M w => Sl M w (some ⟨k71, 0, none⟩) sLb) ha
  clear cx ha
  refine Deliver_at (q := q3) (st := sK0) (L := sLb) (b := 3) s_d2 hq3 (new_i 2 []) s_s0 (by decide) (by decide) ca fun q4 hsb4 hq4 st7 => ?_
  clear ca
  refine fun w G cx => line_to (no := 1) (b := 3) (by unfold I64; decide) (Ctx.swapQ cx) fun k4 st8 => ?_
  clear cx
  refine fun w G cx => line_to (no := 2) (b := 3) (by unfold I64; decide) cx fun k5 st9 => ?_
  clear cx
  intro k109 w G cx
  obtain ⟨ca, ha⟩ := Ctx.freezeBlk (α := LineD) (l := sLb) cx (Elems.two (cs := [.int .i64 1, .int .i64 3, .int .i64 1, .slice (some ⟨k4, 0, none⟩) 1 1, .int .i64 1, .int .i64 0, .int .i64 0]) (lineD_rep (by unfold I64; decide) (by decide) cx.phi.1.2) (lineD_rep (by unfold I64; decide) (by decide) cx.phi.2))
  have ca := ca.add (Ψ := fun M w => Sl M w (some ⟨k109, 0, none⟩) sLb) ha
  clear cx ha
  refine Deliver_at (q := q2) (st := sK0) (L := sLb) (b := 3) s_d2 hq2 (new_i 2 []) s_s0 (by decide) (by decide) ca fun q5 hsb5 hq5 st10 => ?_
  clear ca
  rw [← hsb5]
  refine fun w G cx => line_to (no := 3) (b := 5) (by unfold I64; decide) cx fun k6 st11 => ?_
  clear cx
  intro k132 w G cx
  obtain ⟨ca, ha⟩ := Ctx.freezeBlk (α := LineD) (l := sLa) cx (Elems.one (lineD_rep (by unfold I64; decide) (by decide) cx.phi.2))
  have ca := ca.add (Ψ := fun M w => Sl M w (some ⟨k132, 0, none⟩) sLa) ha
  clear cx ha
  refine Deliver_at (q := q5) (st := sKa) (L := sLa) (b := 5) s_d3 hq5 s_ia s_sa (by decide) (by decide) ca fun q6 hsb6 hq6 st12 => ?_
  clear ca
  rw [← hsb6]
  refine fun w G cx => Deliver_at (hL := hzl _) (q := q6) (st := sKb) (L := []) (b := 4) s_d4 hq6 s_ib s_sb (by decide) (by decide) cx fun q7 hsb7 hq7 st13 => ?_
  clear cx
  rw [← hsb7]
  refine Br.intro (fun _ => Br.intro (fun _ => Br.intro (fun _ => Br.intro (fun _ => Br.intro (fun _ => ?_) (fun h => absurd rfl (of_decide_eq_false h))) (fun h => absurd rfl (of_decide_eq_false h))) (fun h => absurd rfl (of_decide_eq_false h))) (fun h => absurd rfl (of_decide_eq_false h))) (fun h => absurd rfl (of_decide_eq_false h))
  refine fun w G cx => (Last_q hq7).toI cx ?_
  clear cx
  refine Br.intro (fun _ => ?_) (fun h => absurd (show lastK sKb = 5 by decide) (of_decide_eq_false h))
  refine fun w G cx => LinesN_q.toI cx ?_
  clear cx
  exact fun w G cx => ⟨rfl, Ctx.has (Ctx.right (S := SkO q4 sKa) (Ctx.left (Ctx.right (S := SkO q7 sKb) (cx.re (List.append_assoc _ _ _)))))⟩
end Go.Proofs.YtjlfpkgjcffilaaGreatDoor
end

/-
  SinkHides, walked.
-/
section
set_option linter.unusedVariables false
set_option linter.unusedSimpArgs false
namespace Go.Proofs.YtjlfpkgjcffilaaGreatDoor
open Go.Vc


theorem fewO_out {l : List OpD} {n : Int} (h : fewO l n = true) : (l.length : Int) ≤ n ∧ ∀ x ∈ l, x.l.length ≤ 8 := by
  unfold fewO at h
  rw [Bool.and_eq_true] at h
  exact ⟨of_decide_eq_true h.1, fun x hx => by have := fewR_len (List.all_eq_true.1 h.2 x hx); omega⟩

/-- the state between two calls -/
structure HidI (st : SkD) (i : Nat) (LL : List LineD) : Prop where
  inv : SkI st
  prep : PrepI st
  kind : st.kind = 0
  size : SkS st (8 * i)
  aside : st.aside.length ≤ 8
  last : st.prep ≠ 0 → st.aside = LL
  len : LL.length ≤ 8

section
variable {Φ : PW} {W w : World} {R S G : List Own} {p : Option Addr} {cap : Nat}

set_option maxHeartbeats 8000000 in
theorem Hides_pin [Stable Φ] {l : List OpD} {g o : Nat} {cs : List (List Value)} (hp : 0 < l.length → p = some ⟨g, o, none⟩) (hP : ∀ M w, Φ M w → Pin g o cs l M w) (hlen : l.length ≤ maxLen) : GivesIn Φ Tryz.prog F.erratalaw43_SinkHides #[.slice p l.length cap] (.bool true) := by
  refine ⟨fun W0 w0 S0 c0 => GivesIn.go (gives_in (Berratalaw43_SinkHides_run p l.length cap) fun W R => ?_) W0 w0 S0 c0⟩
  have hc : ∀ j (hj : j < l.length), ∃ p c, cs.getD j [] = l[j].cells p c ∧ l[j].l.length ≤ c ∧ c ≤ maxLen ∧ I64 l[j].op ∧ I64 l[j].batch := fun j hj => pin_op (hP _ _ c0.phi) hj
  clear c0
  refine fun w G cx => small43_in.toB cx ?_
  clear cx
  have hz : ∀ Ψ : PW, Has Ψ (fun M w => Sl M w none ([] : List Int)) := fun Ψ => ⟨fun M w _ => nilZ⟩
  refine fun w G cx => New_to (hΦ := hz _) (key := []) (kind := 0) (by decide) cx (fun h => absurd h (by decide)) fun q0 _ hq0 st0 => ?_
  clear cx
  refine fun w G cx => (few43_in (l := l) (n := 60) hp (fun M w h => hP M w h.1) hlen).toB cx ?_
  clear cx
  refine Br.intro (fun h => fun w G cx w G cx => ⟨rfl, Ctx.left (Ctx.right (S := SkO q0 (newK 0 [])) ((cx.fst).re (List.append_assoc _ _ _)))⟩) (fun hf => ?_)
  have hf : fewO l 60 = true := by simpa using hf
  obtain ⟨hl60, hl8⟩ := fewO_out hf
  refine Br.intro (fun h => by cases h) (fun _ => ?_)
  obtain ⟨sb, hsb0⟩ : ∃ sb, q0.sb = sb := ⟨_, rfl⟩
  rw [hsb0]
  obtain ⟨INV, hINV⟩ : ∃ I : Option Addr → Nat → Nat → Int → List Own → PW → Nat → Prop, ∀ pl n c iI R' Φ' k, I pl n c iI R' Φ' k ↔ ∃ (i : Nat) (q : KP) (st : SkD) (LL : List LineD), iI = i ∧ i ≤ l.length ∧ q.sb = sb ∧ SkQ q st ∧ HidI st i LL ∧ n = LL.length ∧ R' = SkO q st ++ R ∧ Φ' = (fun M w => (Φ M w ∧ SkF q st M w) ∧ Sl M w pl LL) ∧ k = l.length - i := ⟨_, fun _ _ _ _ _ _ _ => Iff.rfl⟩
  refine exI_mk INV ⟨⟨SkO q0 (newK 0 []) ++ R, (fun M w => (Φ M w ∧ SkF q0 (newK 0 []) M w) ∧ Sl M w none ([] : List LineD)), l.length - 0, inferInstance, fun w G cx => cx.weak fun M w h => ⟨h, nilL⟩, (hINV _ _ _ _ _ _ _).2 ⟨0, q0, newK 0 [], [], rfl, Nat.zero_le _, hsb0, hq0, ⟨new_i 0 [], fun h => absurd rfl h, rfl, ⟨by decide, by decide, by decide, by decide⟩, by decide, fun _ => rfl, by decide⟩, rfl, rfl, rfl, rfl⟩⟩, ?_⟩
  intro pl nl cl iI R1 Φ1 k1 hst1 hinv
  obtain ⟨i, q, st, LL, rfl, hi, hsb, hq, hH, rfl, rfl, rfl, rfl⟩ := (hINV _ _ _ _ _ _ _).1 hinv
  clear hinv
  rw [← hsb]
  have hi60 : i ≤ 60 := by omega
  have hn : 8 * i ≤ 400000 := by omega
  refine Br.intro (fun hlt => ?_) (fun hge => fun w G cx => ⟨rfl, Ctx.left (Ctx.right (S := SkO q st) ((cx.fst.fst).re (List.append_assoc _ _ _)))⟩)
  have hlt : i < l.length := by have := of_decide_eq_true hlt; omega
  obtain ⟨r, rc, he, h1, h2, h3, h4⟩ := hc i hlt
  have hrow : ∀ {w : World} {S : List Own} {Ψ : PW} [Has Ψ Φ], Ctx W w S Ψ → RowAt w g (o + ((i : Nat) : Int).toNat * 3) (l[i].cells r rc) := fun {w S Ψ} _ cx => by
    rw [Int.toNat_natCast]
    exact pino_rowAt (hP _ _ (Ctx.has (Ψ := Φ) cx).phi) hlt he
  obtain ⟨L, hL⟩ : ∃ L, l[i].l = L := ⟨_, rfl⟩
  obtain ⟨b, hb⟩ : ∃ b, l[i].batch = b := ⟨_, rfl⟩
  obtain ⟨op, hop⟩ : ∃ op, l[i].op = op := ⟨_, rfl⟩
  have hL8 : L.length ≤ 8 := by rw [← hL]; exact hl8 _ (List.getElem_mem hlt)
  have hcells : l[i].cells r rc = [.int .i64 op, .int .i64 b, .slice r L.length rc] := by rw [← hL, ← hb, ← hop]
  rw [hcells] at hrow
  rw [hb] at h4
  have hSl : Has Φ (fun M w => Sl M w r L) := ⟨fun M w h => by rw [← hL]; exact pino_sl (hP M w h) hlt he⟩
  clear hc
  refine ⟨by omega, ptrK_intro g o (hp (by omega)) fun w G cx => ⟨op, hrow cx 0 (by show 0 < 3; decide), andZ op 7, fun w => and_run op 7 w, ?_⟩⟩
  clear cx
  obtain ⟨k, hk⟩ : ∃ k, andZ op 7 = k := ⟨_, rfl⟩
  rw [hk]
  -- the next round
  have next : ∀ {pl' : Option Addr} {cl' : Nat} {q2 : KP} {s2 : SkD} {L2 : List LineD} {Ψ : PW}, Stable Ψ → q2.sb = sb → SkQ q2 s2 → HidI s2 (i + 1) L2 → (∀ M w, Ψ M w → (Φ M w ∧ SkF q2 s2 M w) ∧ Sl M w pl' L2) →
      (I64 ((i : Int) + 1) ∧ ∃ R' Φ' k', Stable Φ' ∧ (∀ (w : World) (G : List Own), Ctx W w ((SkO q2 s2 ++ R) ++ G) Ψ → Ctx W w (R' ++ G) Φ') ∧ INV pl' L2.length cl' ((i : Int) + 1) R' Φ' k' ∧ k' < l.length - i) := fun {pl' cl' q2 s2 L2 Ψ} hs hb2 hq2 hH2 hw =>
    ⟨by unfold I64; omega, SkO q2 s2 ++ R, _, l.length - (i + 1), inferInstance, fun w G cx => cx.weak hw, (hINV _ _ _ _ _ _ _).2 ⟨i + 1, q2, s2, L2, by omega, hlt, hb2, hq2, hH2, rfl, rfl, rfl, rfl⟩, by omega⟩
  refine Br.intro (fun _ => next inferInstance hsb hq ⟨hH.inv, hH.prep, hH.kind, hH.size.up (by omega), hH.aside, hH.last, hH.len⟩ (fun M w h => h)) (fun hk3 => fun w G cx => ?_)
  have hk3 : k ≤ 3 := by have := of_decide_eq_false hk3; omega
  refine List_to hq hH.inv hH.size hn cx fun ps c1 css hps st2 => ?_
  clear cx
  refine fun w G cx => Prepared_q.toI (R := bufL ps st.lines.length c1 css :: R) cx ?_
  clear cx
  refine ⟨by omega, ptrK_intro g o (hp (by omega)) fun w G cx => ⟨b, hrow cx 1 (by show 1 < 3; decide), fun w G cx => (Has_q hq hH.inv hH.size hn).toB (R := bufL ps st.lines.length c1 css :: R) cx ?_⟩⟩
  clear cx
  refine ⟨by omega, ptrK_intro g o (hp (by omega)) fun w G cx => ⟨op, b, r, L.length, rc, hrow cx, fun w G cx => ?_⟩⟩
  refine Do_use (R := bufL ps st.lines.length c1 css :: R) (op := op) (b := b) (L := L) (by rw [hk]; omega) hq hH.inv hH.size hn (by omega) cx fun q2 hsb2 hq2 st3 => ?_
  clear cx
  rw [hk] at hq2 st3 ⊢
  have hid1 := hid hH.kind hk3 b L
  have hoi := op_i hH.inv hH.prep h4 k L
  have hos := op_s hH.size hH.aside k b hL8
  have hok := (op_kind st k b L).1
  rw [hH.kind] at hok
  obtain ⟨m, s2, hm⟩ : ∃ m s2, opK k st b L = (m, s2) := ⟨_, _, rfl⟩
  rw [hm] at hq2 st3 hoi hos hok ⊢
  have hq2 : SkQ q2 s2 := hq2
  have st3 : Stable (fun M w => (((Φ M w ∧ SkF q st M w) ∧ Sl M w pl LL) ∧ Elems M w css st.lines) ∧ SkF q2 s2 M w) := st3
  have hoi : SkI s2 ∧ PrepI s2 := hoi
  have hos : SkS s2 (8 * i + 8) ∧ s2.aside.length ≤ 8 := hos
  have hok : s2.kind = 0 := hok
  have hn2 : 8 * i + 8 ≤ 400000 := by omega
  have hll := hos.1.lines
  have hll0 := hH.size.lines
  have hrw2 : ∀ x ∈ s2.lines, x.row.length ≤ 1000000 := fun x hx => by have := right_len (hoi.1.row x hx); omega
  have hsb' : q2.sb = sb := by rw [hsb2, hsb]
  have mkH : ∀ {L2 : List LineD}, (s2.prep ≠ 0 → s2.aside = L2) → L2.length ≤ 8 → HidI s2 (i + 1) L2 := fun h5 h6 => ⟨hoi.1, hoi.2, hok, hos.1.up (by omega), hos.2, h5, h6⟩
  rw [← hsb2]
  show ∀ (w : World) (G : List Own), _ → _
  intro w G cx
  clear cx
  refine Br.intro (fun hc => ?_) (fun hc => ?_)
  · -- a batch was prepared
    rw [Bool.and_eq_true, Bool.and_eq_true] at hc
    have hc1 := of_decide_eq_true hc.1.1
    have hc2 := of_decide_eq_true hc.1.2
    have hc3 : hasK st b = false := by simpa using hc.2
    have hs2 : s2 = { st with prep := b, aside := L } := by
      cases hid1 with
      | prep _ _ e => rw [hm] at e; exact (Prod.ext_iff.1 e).2
      | comm hk2 => omega
      | abort hk2 => omega
      | none e h => rw [hm] at h; rw [h hc2] at hc3; cases hc3
    refine ⟨by omega, ptrK_intro g o (hp (by omega)) fun w G cx => ⟨r, L.length, rc, hrow cx 2 (by show 2 < 3; decide), SkO q2 s2 ++ (bufL ps st.lines.length c1 css :: R), _, st3, fun w G cx => cx, by omega, ptrK_intro g o (hp (by omega)) ⟨b, fun w G cx => ⟨b, hrow cx 1 (by show 1 < 3; decide), rfl⟩, fun w G cx => Prepared_q.toI (R := bufL ps st.lines.length c1 css :: R) cx ⟨fun w G cx => cx, ?_⟩⟩⟩⟩
    clear cx
    have hpb : s2.prep = b := by rw [hs2]
    refine Br.intro (fun h => absurd hpb (of_decide_eq_true h)) (fun _ => fun w G cx => ?_)
    clear cx
    refine Br.intro (fun h => ?_) (fun _ => ?_)
    · rw [Bool.and_eq_true, Bool.and_eq_true] at h
      have := of_decide_eq_true h.1.1
      omega
    have hlin : s2.lines = st.lines := by rw [hs2]
    have hnx := mkH (L2 := L) (fun _ => by rw [hs2]) hL8
    refine fun w G cx => (List_sl hq2 hoi.1 hos.1 hn2).tot (R := bufL ps st.lines.length c1 css :: R) cx fun p3 c3 _ _ _ st4 => ?_
    clear cx
    refine fun w G cx => ?_
    have cx2 := Ctx.freezeAt (A := SkO q2 s2) (B := R) cx (fun M w h => h.1.1.2)
    refine (SameLines_in (a := s2.lines) (b := st.lines) (by omega) hrw2).toB cx2 ?_
    clear cx cx2
    rw [decide_eq_true hlin]
    refine Br.intro (fun h => by cases h) (fun _ => ?_)
    refine Br.intro (fun h => by have := of_decide_eq_true h; omega) (fun _ => ?_)
    exact next inferInstance hsb' hq2 hnx (fun M w h => ⟨⟨h.1.1.1.1.1.1, h.1.1.2⟩, hSl.go M w h.1.1.1.1.1.1⟩)
  · have hnp : ¬ (k < 2 ∧ m = 0 ∧ hasK st b = false) := fun ⟨a1, a2, a3⟩ => by
      rw [decide_eq_true a1, decide_eq_true a2, a3] at hc; cases hc
    refine fun w G cx => ?_
    clear cx
    refine Br.intro (fun hd => ?_) (fun hd => ?_)
    · -- a batch was committed
      rw [Bool.and_eq_true, Bool.and_eq_true] at hd
      have hc1 := of_decide_eq_true hd.1.1
      have hc2 := of_decide_eq_true hd.1.2
      have hc3 : hasK st b = false := by simpa using hd.2
      have hs2 : s2 = { takeK st b st.aside with prep := 0, aside := [] } ∧ 1 ≤ b ∧ b = st.prep := by
        cases hid1 with
        | prep hk2 => omega
        | comm _ _ h5 h6 e => rw [hm] at e; exact ⟨(Prod.ext_iff.1 e).2, h5, h6⟩
        | abort hk2 => omega
        | none e h => rw [hm] at h; rw [h hc2] at hc3; cases hc3
      obtain ⟨hs2, h5, h6⟩ := hs2
      refine ⟨by omega, ptrK_intro g o (hp (by omega)) fun w G cx => ⟨b, hrow cx 1 (by show 1 < 3; decide), ?_⟩⟩
      clear cx
      refine Br.intro (fun h => absurd h6.symm (of_decide_eq_true h)) (fun _ => fun w G cx => Prepared_q.toI (R := bufL ps st.lines.length c1 css :: R) cx ?_)
      clear cx
      have hpz : s2.prep = 0 := by rw [hs2]
      refine Br.intro (fun h => absurd hpz (of_decide_eq_true h)) (fun _ => fun w G cx => (List_sl hq2 hoi.1 hos.1 hn2).tot (R := bufL ps st.lines.length c1 css :: R) cx fun p3 c3 _ _ _ st4 => ?_)
      clear cx
      have hla : st.aside = LL := hH.last (by omega)
      have hlin : s2.lines = st.lines ++ LL := by rw [hs2, ← hla]; rfl
      have hLL := hH.len
      refine fun w G cx => ?_
      have cy : Ctx W w (bufL ps st.lines.length c1 css :: ((SkO q2 s2 ++ R) ++ G)) _ := cx.perm (by simpa using (List.perm_middle (l₁ := SkO q2 s2) (a := bufL ps st.lines.length c1 css) (l₂ := R ++ G)))
      obtain ⟨p5, c5, w5, news, hrun, cx3⟩ := Ctx.appAny (P := Tryz.prog) (ts := 33) (ty := 33) (kb := #[false, false]) (bytes := 72) (c2 := cl) (l := LL) (q := pl) cy (by kernel_rfl) line_one (fun M w h => h.1.1.1.2) (by omega) (by omega)
      have hel : st.lines.length + LL.length = (st.lines ++ LL).length := by rw [List.length_append]
      rw [hel] at hrun cx3
      obtain ⟨cx4, hsl4, _⟩ := Ctx.freeze (α := LineD) cx3 (cx3.phi.1.1.1.2.append cx3.phi.2)
      refine ⟨p5, _, c5, w5, hrun, SkO q2 s2 ++ R, _, inferInstance, cx4.add (Ψ := fun M w => Sl M w p5 (st.lines ++ LL)) hsl4, fun w G cx => (SameLines_in (a := s2.lines) (b := st.lines ++ LL) (by omega) hrw2).toB cx ?_⟩
      clear cx cx4 cx3 cy
      rw [decide_eq_true hlin]
      refine Br.intro (fun h => by cases h) (fun _ => ?_)
      exact next inferInstance hsb' hq2 (mkH (L2 := LL) (fun h => absurd hpz h) hLL) (fun M w h => ⟨⟨h.1.1.1.1.1.1.1, h.1.1.1.2⟩, h.1.1.1.1.1.2⟩)
    · have hnc : ¬ (k = 2 ∧ m = 0 ∧ hasK st b = false) := fun ⟨a1, a2, a3⟩ => by
        rw [decide_eq_true a1, decide_eq_true a2, a3] at hd; cases hd
      have hlin : s2.lines = st.lines ∧ (s2.prep ≠ 0 → s2.aside = LL) ∧ (k = 3 → m = 0 → s2.prep = 0 ∧ st.prep = b) := by
        cases hid1 with
        | prep h5 h6 e => rw [hm] at e; exact absurd ⟨h5, (Prod.ext_iff.1 e).1, h6⟩ hnp
        | comm h5 h6 _ _ e => rw [hm] at e; exact absurd ⟨h5, (Prod.ext_iff.1 e).1, h6⟩ hnc
        | abort h5 h6 e =>
          rw [hm] at e
          have e2 : s2 = _ := (Prod.ext_iff.1 e).2
          rw [e2]
          exact ⟨rfl, fun h => absurd rfl h, fun _ _ => ⟨rfl, h6.symm⟩⟩
        | none e h h3 =>
          rw [hm] at e h3
          have e : s2 = st := e
          rw [e]
          exact ⟨rfl, hH.last, fun h5 h6 => absurd h6 (h3 h5)⟩
      obtain ⟨hlin, hlast, hab⟩ := hlin
      refine fun w G cx => (List_sl hq2 hoi.1 hos.1 hn2).tot (R := bufL ps st.lines.length c1 css :: R) cx fun p3 c3 _ _ _ st4 => ?_
      clear cx
      refine fun w G cx => ?_
      have cx2 := Ctx.freezeAt (A := SkO q2 s2) (B := R) cx (fun M w h => h.1.1.2)
      refine (SameLines_in (a := s2.lines) (b := st.lines) (by omega) hrw2).toB cx2 ?_
      clear cx cx2
      rw [decide_eq_true hlin]
      have fin := @next pl cl q2 s2 LL (fun M w => (((((Φ M w ∧ SkF q st M w) ∧ Sl M w pl LL) ∧ Elems M w css st.lines) ∧ SkF q2 s2 M w) ∧ Sl M w p3 s2.lines) ∧ Sl M w ps st.lines) inferInstance hsb' hq2 (mkH hlast hH.len) (fun M w h => ⟨⟨h.1.1.1.1.1.1, h.1.1.2⟩, h.1.1.1.1.2⟩)
      refine Br.intro (fun h => by cases h) (fun _ => ?_)
      refine Br.intro (fun h5 => Br.intro (fun h6 => fun w G cx => Prepared_q.toI cx ?_) (fun _ => fin)) (fun _ => fin)
      clear cx
      obtain ⟨h7, h8⟩ := hab (of_decide_eq_true h5) (of_decide_eq_true h6)
      refine Br.intro (fun h => absurd h7 (of_decide_eq_true h)) (fun _ => ⟨by omega, ptrK_intro g o (hp (by omega)) fun w G cx => ⟨b, hrow cx 1 (by show 1 < 3; decide), Br.intro (fun h => absurd h8 (of_decide_eq_true h)) (fun _ => fin)⟩⟩)
theorem Hides_in [Stable Φ] {l : List OpD} [hΦ : Has Φ (fun M w => Sl M w p l)] (hlen : l.length ≤ maxLen) : GivesIn Φ Tryz.prog F.erratalaw43_SinkHides #[.slice p l.length cap] (.bool true) :=
  .pinned hΦ.go fun b o cs hp => Hides_pin hp (fun M w h => h.2) hlen
end
end Go.Proofs.YtjlfpkgjcffilaaGreatDoor
end

section
set_option linter.unusedVariables false
set_option linter.unusedSimpArgs false
namespace Go.Proofs.YtjlfpkgjcffilaaGreatDoor
open Go.ChangeShapes Go.WideShapes Go.ChangeAt Go.RowKit Go.Vc


theorem df_own : ownKnob Tryz.prog.godebug = none := by kernel_rfl
theorem df_laid : laidOutB Tryz.prog = true := by kernel_rfl

theorem trodAll_n {H : Type} {enc : TypeId × Value → H} {P : Program} {w : World} {base : Nat} {spare : Nat → Bool} {held : Bool} {t0 : TypeId} {args : Array Value} {ds : List (DataW H)} {ps : List MemPlace} (h : DataW.TrodAll enc P w base spare held [t0] args.toList ds ps) :
    ∃ v0 d0 p0, args = #[v0] ∧ ds = [d0] ∧ ps = p0 ∧ DataW.Trod enc P w base spare held t0 v0 d0 p0 := by
  obtain ⟨v0, vs0, d0, ds0, p0, q0, hargs, rfl, rfl, h0, h⟩ := trodAll_cons h
  obtain ⟨rfl, rfl, rfl⟩ := trodAll_nil h
  exact ⟨v0, d0, p0, by cases args; simp_all, rfl, by simp, h0⟩

theorem door_met (os : Os) (args : Array Value) : laidMetH Tryz.prog Rows.sinkHidesRow.laid ((World.doorLaid Tryz.prog 400 os).forCall (fun _ _ => 0) ⟨#[], args, []⟩).memory :=
  laidMetH_of_parts3 (fuel := 8) (laidMet_of_run' 8 (by kernel_rfl) (by kernel_rfl)) (by kernel_rfl) (by kernel_rfl)

set_option maxRecDepth 100000 in
theorem law_lifted (os : Os) (started : os.Started) (H : Type) (enc : TypeId × Value → H) :
    ReturnsInHanded {} Tryz.checked os 5 .any (fun w args => (Rows.sinkHidesSpec.pre enc Tryz.prog Tryz.f5 Rows.sinkHidesRow.domain false w args ∧ laidMetH Tryz.prog Rows.sinkHidesRow.laid w) ∧ sizedMet enc Tryz.prog Tryz.f5 (OpenSpec.ofChange Rows.sinkHidesSpec) false w args) (Rows.sinkHidesSpec.post enc Tryz.prog Tryz.f5 false true false false) := by
  refine lawTrueLaid (C := Tryz.checked) (tb := 4) df_own started (by kernel_rfl) Tryz.func5 df_laid rfl ?_ rfl Tryz.underlying4 (by kernel_rfl)
    (ChangeSpec.witness_shaped (enc := enc) (C := Tryz.checked) (os := os) (X := fun w _ => laidMetH Tryz.prog Rows.sinkHidesRow.laid w) false (World.doorLaid Tryz.prog 400 os) #[.slice none 0 0] 8 rfl (World.shaped_of_RefB (by kernel_rfl) (by kernel_rfl)) (by kernel_rfl) (by kernel_rfl) (by kernel_rfl) (door_met os _)) ?_
  · intro ds hd
    match ds, hd with
    | [_], _ => exact ⟨rfl, rfl, rfl⟩
  · intro W base args ds p hval0 hA0 _ hL
    have hval : ∀ (j : Nat) t v, Tryz.f5.params[j]? = some t → args[j]? = some v → Value.okWide Tryz.prog W .any base t v := hval0
    have hA : DataW.TrodAll enc Tryz.prog W 0 (fun _ => true) true Tryz.f5.params.toList args.toList ds p := hA0
    rw [Tryz.params5] at hA hval
    obtain ⟨v0, d0, p0, rfl, rfl, rfl, h0⟩ := trodAll_n hA
    obtain ⟨lp, lc, l, rfl, la, lb, s0⟩ := open_sl (α := OpD) 12 Tryz.underlying22 (hval 0 22 v0 rfl rfl) (by kernel_rfl) h0
    have st0 : Stable (fun M w => Sl M w lp l) := inferInstance
    have fin : GivesIn (fun M w => Sl M w lp l) Tryz.prog 5 _ (.bool true) := Hides_in (Φ := (fun M w => Sl M w lp l)) (p := lp) (cap := lc) (l := l) (hΦ := ⟨fun _ _ h => h⟩) (by omega)
    exact fin.law s0

theorem row_holds : Rows.SinkHidesSaid :=
  OpenClaim.holds_of_wide 5 Tryz.f5 rfl rfl rfl rfl rfl rfl rfl ⟨rfl, rfl, rfl, rfl, rfl⟩ rfl rfl rfl rfl rfl (by kernel_rfl) Tryz.func5 (by kernel_rfl)
    (of_decide_eq_true (by kernel_rfl)) (by unfold Func.isWrapper; first | (rw [if_pos (by decide +kernel)]; kernel_rfl) | (rw [if_neg (by decide +kernel)]; exact ⟨rfl, rfl⟩))
    (fun os started H enc _ => law_lifted os started H enc)

theorem hides_holds : Rows.SinkHidesCardSaid :=
  Claim7.holds_tied_plain_at .later [] [.data, .data, .data, .sentinel, .sentinel] true Rows.sinkHidesCard.stood.harness true
    row_holds (fun _ h => by cases h) (by kernel_rfl) (fun _ h => by cases h) sinkHides_row_tie rfl ⟨rfl, rfl⟩ (by kernel_rfl) rfl
    (fun f fn hf hfn => by
      obtain rfl : f = 5 := Option.some.inj ((show Tryz.prog.funcNamed Rows.sinkHidesRow.func = some 5 by kernel_rfl).symm.trans hf) |>.symm
      obtain rfl : fn = Tryz.f5 := (Option.some.inj (Tryz.func5.symm.trans hfn)).symm
      exact ⟨by kernel_rfl, fun j t ht => by
        rw [Tryz.params5] at ht
        have hm := Array.mem_of_getElem? ht
        have hall : ((Tryz.f5.params.toList).all fun u => !Tryz.prog.wantsStandIn u) = true := by kernel_rfl
        rw [Tryz.params5] at hall
        exact (show Tryz.prog.wantsStandIn t = false by simpa using List.all_eq_true.1 hall t (by simpa using hm))⟩)
    (by kernel_rfl)

end Go.Proofs.YtjlfpkgjcffilaaGreatDoor
end

