/-
  For every input erratalaw37.PlaceRoutes returns true, does not panic, comes to an end, and leaves what came in as it was; the variables that its row lists are as the program's text lays them.
  Conditions: none beyond the given statement's own (PlaceRoutesCardSaid).
-/
import Derived.Test.YtbkpfhhhbhaecaaDoorPR8
import Derived.Test.YtbkpfhhhbhaecaaDoorPR7
import Derived.Test.YtbkpfhhhbhaecaaDoorCards
import Derived.MakeChecks
import Derived.Stop.LaidErr
import Derived.Lib.LaidTab
import Derived.Test.YtbkpfhhhbhaecaaDoorTie
import Derived.SevenTiedAt
import Derived.LaidMore
import Derived.ChangeMaps5
import Derived.Test.YtbkpfhhhbhaecaaDoorRows

/-
  The law PlaceRoutes, walked.
-/
section
set_option linter.unusedVariables false
set_option linter.unusedSimpArgs false
namespace Go.Proofs.YtbkpfhhhbhaecaaDoor
open Go.Vc


abbrev SendD.cells (x : SendD) (q : Option Addr) (qc : Nat) : List Value := [.int .i64 x.worker, .int .i64 x.kind, .int .i64 x.node, .int .i64 x.inp, .int .i64 x.bucket, .int .i64 x.seq, .slice q x.deltas.length qc]
theorem send_pin {M : List Nat} {w : World} {b o : Nat} {cs : List (List Value)} {S : List SendD} (h : Pin b o cs S M w) {j : Nat} (hj : j < S.length) : ∃ q qc, cs.getD j [] = S[j].cells q qc ∧ S[j].deltas.length ≤ qc ∧ qc ≤ maxLen ∧ Sl M w q S[j].deltas ∧ RowAt w b (o + j * 7) (S[j].cells q qc) := by
  obtain ⟨_, h1, h2⟩ := h j hj
  obtain ⟨_, _, e1, ⟨rfl, _⟩, _, _, rfl, ⟨rfl, _⟩, _, _, rfl, ⟨rfl, _⟩, _, _, rfl, ⟨rfl, _⟩, _, _, rfl, ⟨rfl, _⟩, _, _, rfl, ⟨rfl, _⟩, q, qc, rfl, g1, g2, g3⟩ := h2
  have e : cs.getD j [] = S[j].cells q qc := e1
  exact ⟨q, qc, e, g1, g2, g3, by rw [e] at h1; exact h1⟩
theorem send_inj {x : SendD} {q q2 : Option Addr} {qc qc2 : Nat} (h : x.cells q qc = x.cells q2 qc2) : q = q2 ∧ qc = qc2 := by
  simp only [SendD.cells, List.cons.injEq, Value.slice.injEq, true_and, and_true] at h
  exact h
theorem rowAt_tail {w : World} {b o : Nat} {v : Value} {vs : List Value} (h : RowAt w b o (v :: vs)) : RowAt w b (o + 1) vs := fun j hj => by
  have := h (j + 1) (by simpa using hj)
  rw [show o + 1 + j = o + (j + 1) by omega]
  simpa using this
theorem got_step {S : List SendD} {j k b t : Nat} (h : t < S.length) : gotP (S.take (t + 1)) j k b = gotP (S.take t) j k b ++ (if isOf j k b S[t] = true then S[t].deltas else []) := by
  unfold gotP
  rw [List.take_succ_eq_append_getElem h, List.filter_append, List.flatMap_append]
  congr 1
  by_cases e : isOf j k b S[t] = true
  · rw [if_pos e, List.filter_cons_of_pos e]; simp
  · rw [if_neg e, List.filter_cons_of_neg e]; simp
theorem right_text {r : List ValD} (h : rightR r = true) : r.length ≤ 12 ∧ ∀ v ∈ r, v.text.size ≤ 200 := by
  unfold rightR at h
  rw [Bool.and_eq_true, List.all_eq_true] at h
  refine ⟨by have := of_decide_eq_true h.1; omega, fun v hv => ?_⟩
  have h2 := h.2 v hv
  unfold rightV3 at h2
  split at h2
  · rw [of_decide_eq_true h2]; decide
  · split at h2
    · rw [Bool.and_eq_true] at h2
      have := of_decide_eq_true h2.2
      omega
    · rw [Bool.and_eq_true] at h2
      rw [of_decide_eq_true h2.2]; decide

/-- one more delta that was read -/
theorem pushD1 {W w : World} {R G : List Own} {PS : PW} [Stable PS] {op : Option Addr} {oc : Nat} {ds : List Value} {o : List DeltaD} {x : DeltaD} {q : Option Addr} {qc kb : Nat} (hx : ∀ M w, PS M w → Gv.rep M w (x.cells q qc) x) (ho : o.length < 10000000)
    (cx : Ctx W w (.blk kb (x.cells q qc) 77 :: .buf op o.length oc ds 77 3 :: R ++ G) (fun M w => PS M w ∧ Elems M w ds o)) :
    ∃ p c w', Sem.run Tryd.prog (builtin Builtin.append #[55, 55] 55 #[false, false] #[.slice op o.length oc, .slice (some ⟨kb, 0, none⟩) 1 1]) w = .ok (.value (.slice p (o ++ [x]).length c)) w' ∧ Ctx W w' (.buf p (o ++ [x]).length c (ds ++ x.cells q qc) 77 3 :: R ++ G) (fun M w => PS M w ∧ Elems M w (ds ++ x.cells q qc) (o ++ [x])) := by
  obtain ⟨p', cap', w', hrun, _, cx'⟩ := Ctx.app1 (P := Tryd.prog) (ts := 55) (ty := 55) (kb := #[false, false]) (size := 3) (bytes := 40) cx (by kernel_rfl) (by omega) rfl rfl (by omega) (by omega)
  have e : o.length + 1 = (o ++ [x]).length := by simp
  rw [e] at hrun cx'
  exact ⟨p', cap', w', hrun, cx'.weak fun M w h => ⟨h.1, h.2.snoc (hx M w h.1)⟩⟩
theorem wanted_step {d : NodeD} {k bucket : Int} {l : List DeltaD} {b t : Nat} (h : t < l.length) : dealtP d k bucket (l.take (t + 1)) b = dealtP d k bucket (l.take t) b ++ (if needP d k bucket l[t].row = (b : Int) then [l[t]] else []) := by
  unfold dealtP
  rw [List.take_succ_eq_append_getElem h, List.filter_append]
  congr 1
  by_cases e : needP d k bucket l[t].row = (b : Int)
  · rw [if_pos e, List.filter_cons_of_pos (by simpa using e)]; rfl
  · rw [if_neg e, List.filter_cons_of_neg (by simpa using e)]; rfl

section
variable {Φ : PW} {nP pP lP : Option Addr} {nC pC lC : Nat} {ns : List NodeD} {pl : List Int} {l : List DeltaD} {node bucket : Int}

set_option maxHeartbeats 4000000 in
theorem PlaceRoutes_in [Stable Φ] [hT : Has Φ TabI] [hN : Has Φ (fun M w => Sl M w nP ns)] [hP : Has Φ (fun M w => Sl M w pP pl)] [hL : Has Φ (fun M w => Sl M w lP l)] (hnl : ns.length ≤ maxLen) (hll : l.length ≤ maxLen) :
    GivesIn Φ Tryd.prog F.erratalaw37_PlaceRoutes #[.slice nP ns.length nC, .slice pP pl.length pC, .int .i64 node, .int .i64 bucket, .slice lP l.length lC] (.bool true) := by
  refine .pinned (hN.go) fun gN oN cN hpN => .pinned (fun M w h => hL.go M w h.1) fun gL oL cL hpL => ?_
  obtain ⟨PS, hPS⟩ : ∃ PS : PW, PS = (fun M w => (Φ M w ∧ Pin gN oN cN ns M w) ∧ Pin gL oL cL l M w) := ⟨_, rfl⟩
  have stP : Stable PS := by rw [hPS]; infer_instance
  have i0 : ∀ M w, PS M w → Φ M w := fun M w h => by rw [hPS] at h; exact h.1.1
  have iN : ∀ M w, PS M w → Pin gN oN cN ns M w := fun M w h => by rw [hPS] at h; exact h.1.2
  have iL : ∀ M w, PS M w → Pin gL oL cL l M w := fun M w h => by rw [hPS] at h; exact h.2
  suffices hgo : GivesIn PS Tryd.prog F.erratalaw37_PlaceRoutes #[.slice nP ns.length nC, .slice pP pl.length pC, .int .i64 node, .int .i64 bucket, .slice lP l.length lC] (.bool true) by rw [← hPS]; exact hgo
  clear hPS
  have aT : Has PS TabI := ⟨fun M w h => hT.go M w (i0 M w h)⟩
  have aN : Has PS (fun M w => Sl M w nP ns) := ⟨fun M w h => hN.go M w (i0 M w h)⟩
  have aP : Has PS (fun M w => Sl M w pP pl) := ⟨fun M w h => hP.go M w (i0 M w h)⟩
  have aL : Has PS (fun M w => Sl M w lP l) := ⟨fun M w h => hL.go M w (i0 M w h)⟩
  refine .there (fun M w h => (hP.go M w (i0 M w h)).there) fun htp => ?_
  suffices hgo : (∀ j, (hj : j < ns.length) → ∃ x : NodeC, cN.getD j [] = x.cells ∧ x.Of ns[j]) → (∀ j, (hj : j < l.length) → ∃ p c, cL.getD j [] = l[j].cells p c ∧ l[j].row.length ≤ c ∧ c ≤ maxLen ∧ I64 l[j].time ∧ I64 l[j].n) →
      GivesIn PS Tryd.prog F.erratalaw37_PlaceRoutes #[.slice nP ns.length nC, .slice pP pl.length pC, .int .i64 node, .int .i64 bucket, .slice lP l.length lC] (.bool true) from
    ⟨fun W w S c => (hgo (fun j hj => by obtain ⟨x, h1, h2, _⟩ := node_pin (iN _ _ c.phi) hj; exact ⟨x, h1, h2⟩) (fun j hj => by obtain ⟨p, c, h1, h2, h3, h4, h5, _⟩ := pin_delta (iL _ _ c.phi) hj; exact ⟨p, c, h1, h2, h3, h4, h5⟩)).go W w S c⟩
  intro hnc hlc
  refine gives_in (Berratalaw37_PlaceRoutes_run nP ns.length nC pP pl.length pC node bucket lP l.length lC) fun W R => ?_
  refine fun w G cx => (small37_in (Φ := PS)).toB cx fun w G cx => (light_in (Φ := PS) (ns := ns) hnl).toB cx (Br.intro (fun _ => fun w G cx => ⟨rfl, cx.left⟩) fun h1 => ?_)
  clear cx
  obtain ⟨hns, hlt⟩ := light_out (ns := ns) (by simpa using h1)
  refine fun w G cx => (RightZ_in (Φ := PS) (l := pl) (n := 8)).toB cx (Br.intro (fun _ => fun w G cx => ⟨rfl, cx.left⟩) fun h2 => Br.intro (fun _ => fun w G cx => ⟨rfl, cx.left⟩) fun h3 => Br.intro (fun _ => fun w G cx => ⟨rfl, cx.left⟩) fun h4 => Br.intro (fun _ => fun w G cx => ⟨rfl, cx.left⟩) fun h5 => ?_)
  clear cx
  have hb : 0 ≤ bucket ∧ bucket < 16 := ⟨by have := of_decide_eq_false h3; omega, by have := of_decide_eq_false h4; omega⟩
  have hl40 : l.length ≤ 40 := by have := of_decide_eq_false h5; omega
  have hpl : pl.length = 16 := by
    have h2 : rightZ pl 8 = true := by simpa using h2
    unfold rightZ at h2
    simp only [Bool.and_eq_true] at h2
    have := h2
    simp at this
    omega
  refine fun w G cx => (Right28_in (Φ := PS) (l := l) hll).toB cx (Br.intro (fun _ => fun w G cx => ⟨rfl, cx.left⟩) fun h6 => ?_)
  clear cx
  have hrow : ∀ x ∈ l, x.row.length ≤ 12 ∧ ∀ v ∈ x.row, v.text.size ≤ 200 := fun x hx => by
    have h6 : rightL l = true := by simpa using h6
    exact right_text (List.all_eq_true.1 h6 x hx)
  refine fun w G cx => (Route_sl (Φ := PS) (ns := ns) (pl := pl) (l := l) (node := node) (bucket := bucket) hpl hb hns hlt hl40 hrow).use cx fun pS cS w hc1 hc2 cx => ?_
  obtain ⟨S, hS⟩ : ∃ S, routeP pl ns node bucket l = S := ⟨_, rfl⟩
  have hSl : S.length ≤ 20 * (10 * (16 * 40)) := by
    rw [← hS]
    exact Nat.le_trans (pre_le _ hns fun j => Nat.le_trans (sendsJ_le pl ns node bucket l j fun d hd => (hlt d hd).1) (Nat.mul_le_mul_left 10 (Nat.mul_le_mul_left 16 hl40))) (Nat.le_refl _)
  rw [hS] at cx hc1 ⊢
  obtain ⟨gS, oS, kS, hpS, cx⟩ := cx.pin cx.phi.2
  obtain ⟨QS, hQS⟩ : ∃ QS : PW, QS = (fun M w => (PS M w ∧ Sl M w pS S) ∧ Pin gS oS kS S M w) := ⟨_, rfl⟩
  have stQ : Stable QS := by rw [hQS]; infer_instance
  have iQ : ∀ M w, QS M w → PS M w := fun M w h => by rw [hQS] at h; exact h.1.1
  have iS : ∀ M w, QS M w → Pin gS oS kS S M w := fun M w h => by rw [hQS] at h; exact h.2
  rw [← hQS] at cx
  clear hQS
  have hsc : ∀ t, (ht : t < S.length) → ∃ q qc, S[t].deltas.length ≤ qc ∧ qc ≤ maxLen ∧ ∀ M w, QS M w → Sl M w q S[t].deltas ∧ RowAt w gS (oS + t * 7) (S[t].cells q qc) := fun t ht => by
    obtain ⟨q, qc, e, g1, g2, _, _⟩ := send_pin (iS _ _ cx.phi) ht
    refine ⟨q, qc, g1, g2, fun M w h => ?_⟩
    obtain ⟨q2, qc2, e2, _, _, g3, g4⟩ := send_pin (iS M w h) ht
    obtain ⟨rfl, rfl⟩ := send_inj (e.symm.trans e2)
    exact ⟨g3, g4⟩
  refine ⟨pS, _, cS, rfl, _, QS, stQ, cx, ?_⟩
  clear cx
  refine exI_mk (fun n R' Φ' m => ∃ j : Nat, n = j ∧ j ≤ ns.length ∧ R = R' ∧ QS = Φ' ∧ m = ns.length - j) ⟨⟨R, QS, _, stQ, fun w F c => c, 0, rfl, Nat.zero_le _, rfl, rfl, rfl⟩, ?_⟩
  rintro n R1 Φ1 m _ ⟨j, rfl, hj, rfl, rfl, rfl⟩
  refine Br.intro (fun hj1 => ?_) (fun hge => ?_)
  · have hj1 : j < ns.length := by have := of_decide_eq_true hj1; omega
    obtain ⟨x, hxc, hxo⟩ := hnc j hj1
    obtain ⟨hd1, hd2, hd3⟩ := hlt ns[j] (List.getElem_mem hj1)
    have hdj : ns[j]? = some ns[j] := List.getElem?_eq_getElem hj1
    have hxa : ∀ M w, QS M w → x.At ns[j] M w := fun M w h => by
      obtain ⟨y, h1, _, h3, _⟩ := node_pin (iN M w (iQ M w h)) hj1
      rw [hxc] at h1
      rw [node_inj h1]
      exact h3
    have hxr : ∀ M w, QS M w → RowAt w gN (oN + j * 16) x.cells := fun M w h => by
      obtain ⟨y, h1, _, _, h4⟩ := node_pin (iN M w (iQ M w h)) hj1
      rw [hxc] at h1
      rw [node_inj h1]
      exact h4
    obtain ⟨d, hd⟩ : ∃ d, ns[j] = d := ⟨_, rfl⟩
    rw [hd] at hxo hd1 hd2 hd3 hxa hdj
    have hinl := hxo.inp
    refine exI_mk (fun n R' Φ' m => ∃ k : Nat, n = k ∧ k ≤ d.inp.length ∧ R = R' ∧ QS = Φ' ∧ m = d.inp.length - k) ⟨⟨R, QS, _, stQ, fun w F c => c, 0, rfl, Nat.zero_le _, rfl, rfl, rfl⟩, ?_⟩
    rintro n R2 Φ2 m _ ⟨k, rfl, hk, rfl, rfl, rfl⟩
    refine ⟨by omega, ptrK_intro gN oN (hpN (by omega)) fun w G cx => ⟨x.n1P, d.inp.length, x.n1C, by rw [Int.toNat_natCast, ← hinl]; exact hxr _ _ cx.phi 1 (by simp), ?_⟩⟩
    have htI := (hxa _ _ cx.phi).1.there
    clear cx
    refine Br.intro (fun hk1 => ?_) (fun hge => ⟨by unfold I64; omega, R, QS, ns.length - (j + 1), stQ, fun w G cx => cx, ⟨j + 1, rfl, hj1, rfl, rfl, rfl⟩, by omega⟩)
    have hk1 : k < d.inp.length := by have := of_decide_eq_true hk1; omega
    obtain ⟨gI, oI, hpI⟩ := htI (by omega)
    have hin : d.inp.getD k 0 = d.inp[k] := by rw [List.getD_eq_getElem?_getD, List.getElem?_eq_getElem hk1]; rfl
    have rdI : ∀ M w, QS M w → w.cell? ⟨gI, oI + k, none⟩ = some (.int .i64 d.inp[k]) := fun M w h => sl_int (by rw [← hpI]; exact (hxa M w h).1) hk1
    obtain ⟨Wb, hWb⟩ : ∃ Wb : Nat → List DeltaD, Wb = fun b => if d.inp[k] = node then dealtP d k bucket l b else [] := ⟨_, rfl⟩
    have hof : ∀ b, b < 16 → gotP S j k b = Wb b := fun b hb16 => by
      rw [← hS, of_route hdj hk1 hb16, hin, hWb]
    have hWl : ∀ b, (Wb b).length ≤ 40 := fun b => by
      rw [hWb]
      simp only
      split
      · exact Nat.le_trans (dealt_le _ _ _ _ _) hl40
      · exact Nat.zero_le _
    refine exI_mk (fun gp gn gc n R' Φ' m => ∃ (b : Nat) (ds : List Value) (gl : List DeltaD), n = b ∧ b ≤ 16 ∧ gl = (List.range b).flatMap Wb ∧ gn = gl.length ∧ R' = .buf gp gl.length gc ds 77 3 :: R ∧ Φ' = (fun M w => QS M w ∧ Elems M w ds gl) ∧ m = 16 - b)
      ⟨⟨.buf none 0 0 [] 77 3 :: R, (fun M w => QS M w ∧ Elems M w [] ([] : List DeltaD)), _, inferInstance, fun w G cx => (cx.nobuf 77 3).weak fun M w h => ⟨h, Elems.nil⟩, 0, [], [], rfl, by omega, rfl, rfl, rfl, rfl, rfl⟩, ?_⟩
    rintro gp gn gc n R3 Φ3 m _ ⟨b, ds, gl, rfl, hb16, hgl, rfl, rfl, rfl, rfl⟩
    refine Br.intro (fun hb1 => ?_) (fun hge => ?_)
    rotate_left
    · have hge : b = 16 := by have := of_decide_eq_false hge; omega
      subst hge
      have hgl2 : gl.length ≤ 16 * 40 := by rw [hgl]; exact pre_le Wb (Nat.le_refl _) hWl
      refine ⟨by omega, ptrK_intro gN oN (hpN (by omega)) fun w G cx => ⟨x.n1P, d.inp.length, x.n1C, by rw [Int.toNat_natCast, ← hinl]; exact hxr _ _ cx.phi.1 1 (by simp), by omega, ptrK_intro gI oI hpI fun w G cx => ⟨d.inp[k], by rw [Int.toNat_natCast]; exact rdI _ _ cx.phi.1, Br.intro (fun he => fun w G cx => ?_) (fun he => ⟨by unfold I64; omega, R, QS, d.inp.length - (k + 1), stQ, fun w G cx => cx.drop1.fst, ⟨k + 1, rfl, hk1, rfl, rfl, rfl⟩, by omega⟩)⟩⟩⟩
      have he : d.inp[k] = node := of_decide_eq_true he
      have hpm : consP gl = consP l := by
        refine consP_perm ?_
        rw [hgl, hWb]
        simp only [if_pos he]
        exact dealt_perm hb
      obtain ⟨cx2, hs, _, k1, k2⟩ := Ctx.freeze (α := DeltaD) cx cx.phi.2
      have cx3 := (cx2.add hs).weak (Ψ := fun M w => QS M w ∧ Sl M w gp gl) fun M w h => ⟨h.1.1, h.2⟩
      clear cx cx2
      have hsame := Same_in (Φ := fun M w => QS M w ∧ Sl M w gp gl) gp gc gl lP lC l (fun M w h => h.2) (fun M w h => aL.go M w (iQ M w h.1)) (by omega) (by omega) (fun y hy => ?_) (fun y hy => by have := (hrow y hy).1; omega)
      · rw [decide_eq_true hpm] at hsame
        refine hsame.toB cx3 (Br.intro (fun h => by cases h) fun _ => ⟨by unfold I64; omega, R, QS, d.inp.length - (k + 1), stQ, fun w G cx => cx.fst, ⟨k + 1, rfl, hk1, rfl, rfl, rfl⟩, by omega⟩)
      · rw [hgl, hWb] at hy
        simp only [if_pos he] at hy
        have := (hrow y ((dealt_perm hb).mem_iff.1 hy)).1
        omega
    have hb1 : b < 16 := by have := of_decide_eq_true hb1; omega
    have hofb := hof b hb1
    have hWlb := hWl b
    -- what is sent to this bucket
    refine exI_mk (fun op on oc n R' Φ' m => ∃ (t : Nat) (ds2 : List Value) (ol : List DeltaD), n = t ∧ t ≤ S.length ∧ ol = gotP (S.take t) j k b ∧ on = ol.length ∧ R' = .buf op ol.length oc ds2 77 3 :: .buf gp gl.length gc ds 77 3 :: R ∧ Φ' = (fun M w => (QS M w ∧ Elems M w ds gl) ∧ Elems M w ds2 ol) ∧ m = S.length - t)
      ⟨⟨.buf none 0 0 [] 77 3 :: .buf gp gl.length gc ds 77 3 :: R, (fun M w => (QS M w ∧ Elems M w ds gl) ∧ Elems M w [] ([] : List DeltaD)), _, inferInstance, fun w G cx => (cx.nobuf 77 3).weak fun M w h => ⟨h, Elems.nil⟩, 0, [], [], rfl, by omega, rfl, rfl, rfl, rfl, rfl⟩, ?_⟩
    rintro op on oc n R4 Φ4 m _ ⟨t, ds2, ol, rfl, ht, hol, rfl, rfl, rfl, rfl⟩
    have holl : ∀ t, (gotP (S.take t) j k b).length ≤ (gotP S j k b).length := fun t => by
      have e : gotP S j k b = gotP (S.take t) j k b ++ gotP (S.drop t) j k b := by
        unfold gotP
        rw [← List.flatMap_append, ← List.filter_append, List.take_append_drop]
      rw [e, List.length_append]; omega
    refine Br.intro (fun ht1 => ?_) (fun hge => ?_)
    · have ht1 : t < S.length := by have := of_decide_eq_true ht1; omega
      obtain ⟨q, qc, g1, g2, hrd⟩ := hsc t ht1
      have hstep := got_step (j := j) (k := k) (b := b) ht1
      have hol3 := holl (t + 1)
      rw [hofb] at hol3
      obtain ⟨X, hX⟩ : ∃ X, S[t] = X := ⟨_, rfl⟩
      rw [hX] at hstep g1 hrd
      refine ⟨by omega, ptrK_intro gS oS (hpS (by omega)) fun w G cx => ⟨X.kind, X.node, X.inp, X.bucket, X.seq, q, X.deltas.length, qc, by rw [Int.toNat_natCast]; exact rowAt_tail (hrd _ _ cx.phi.1.1).2, fun _ w G cx => ?_⟩⟩
      clear cx
      refine Br.intro (fun h => fun w G cx => ?_) (fun h => ?_)
      · have h : isOf j k b X = true := h
        rw [if_pos h, ← hol] at hstep
        have hlen : ol.length + X.deltas.length ≤ 40 := by rw [hstep, List.length_append] at hol3; omega
        obtain ⟨p', c', w', news, hrun, cx'⟩ := Ctx.appAny (P := Tryd.prog) (ts := 55) (ty := 55) (kb := #[false, false]) (bytes := 40) (c2 := qc) (l := X.deltas) (q := q) cx (by kernel_rfl) delta_one (fun M w h => (hrd M w h.1.1).1) (by omega) (by omega)
        have e : ol.length + X.deltas.length = (ol ++ X.deltas).length := by simp
        rw [e] at hrun cx'
        exact ⟨p', _, c', w', hrun, _, _, inferInstance, cx', by unfold I64; omega, _, _, S.length - (t + 1), inferInstance, fun w G cx => cx.weak fun M w h => ⟨h.1.1, h.1.2.append h.2⟩, ⟨t + 1, ds2 ++ news, ol ++ X.deltas, rfl, ht1, hstep.symm, rfl, rfl, rfl, rfl⟩, by omega⟩
      · have h : isOf j k b X = false := h
        rw [if_neg (by rw [h]; simp), List.append_nil] at hstep
        exact ⟨by unfold I64; omega, _, _, S.length - (t + 1), inferInstance, fun w G cx => cx, ⟨t + 1, ds2, ol, rfl, ht1, by rw [hstep, hol], rfl, rfl, rfl, rfl⟩, by omega⟩
    · have hge : t = S.length := by have := of_decide_eq_false hge; omega
      subst hge
      rw [List.take_length, hofb] at hol
      have hol40 : ol.length ≤ 40 := by rw [hol]; exact hWlb
      -- what is wanted
      obtain ⟨wt, hwt⟩ : ∃ wt : Nat → List DeltaD, wt = fun t => if d.inp[k] = node then dealtP d k bucket (l.take t) b else [] := ⟨_, rfl⟩
      have hwl : ∀ t, (wt t).length ≤ 40 := fun t => by
        rw [hwt]
        simp only
        split
        · refine Nat.le_trans (dealt_le _ _ _ _ _) ?_
          rw [List.length_take]; omega
        · exact Nat.zero_le _
      refine exI_mk (fun wp wn wc n R' Φ' m => ∃ (t : Nat) (ds3 : List Value) (wl : List DeltaD), n = t ∧ t ≤ l.length ∧ wl = wt t ∧ wn = wl.length ∧ R' = .buf wp wl.length wc ds3 77 3 :: .buf op ol.length oc ds2 77 3 :: .buf gp gl.length gc ds 77 3 :: R ∧ Φ' = (fun M w => ((QS M w ∧ Elems M w ds gl) ∧ Elems M w ds2 ol) ∧ Elems M w ds3 wl) ∧ m = l.length - t)
        ⟨⟨.buf none 0 0 [] 77 3 :: .buf op ol.length oc ds2 77 3 :: .buf gp gl.length gc ds 77 3 :: R, (fun M w => ((QS M w ∧ Elems M w ds gl) ∧ Elems M w ds2 ol) ∧ Elems M w [] ([] : List DeltaD)), _, inferInstance, fun w G cx => (cx.nobuf 77 3).weak fun M w h => ⟨h, Elems.nil⟩, 0, [], [], rfl, by omega, by rw [hwt]; simp only; split <;> rfl, rfl, rfl, rfl, rfl⟩, ?_⟩
      rintro wp wn wc n R5 Φ5 m _ ⟨t, ds3, wl, rfl, ht, hwlt, rfl, rfl, rfl, rfl⟩
      have hwl40 : wl.length ≤ 40 := by rw [hwlt]; exact hwl t
      refine fun w G cx => ⟨fun _ => by omega, ptrK_intro gN oN (hpN (by omega)) ⟨x.n1P, d.inp.length, x.n1C, fun _ => by rw [Int.toNat_natCast, ← hinl]; exact hxr _ _ cx.phi.1.1.1 1 (by simp), fun _ => by omega, ptrK_intro gI oI hpI ⟨d.inp[k], fun _ => by rw [Int.toNat_natCast]; exact rdI _ _ cx.phi.1.1.1, ?_⟩⟩⟩
      clear cx
      refine Br.intro (fun hc => ?_) (fun hc => fun w G cx => ?_)
      · -- one more is wanted
        obtain ⟨ht1, he⟩ : t < l.length ∧ d.inp[k] = node := by
          rw [Bool.and_eq_true] at hc
          exact ⟨by have := of_decide_eq_true hc.1; omega, of_decide_eq_true hc.2⟩
        obtain ⟨q, qc, hpc, f1, f2, f3, f4⟩ := hlc t ht1
        have hf := hrow l[t] (List.getElem_mem ht1)
        have hws := wanted_step (d := d) (k := (k : Int)) (bucket := bucket) (b := b) ht1
        obtain ⟨X, hX⟩ : ∃ X, l[t] = X := ⟨_, rfl⟩
        have slX : ∀ M w, PS M w → Sl M w q X.row := fun M w h => by rw [← hX]; exact pin_row (iL M w h) ht1 hpc
        rw [hX] at f1 f3 f4 hf hws
        have hwl2 : wl = dealtP d k bucket (l.take t) b := by rw [hwlt, hwt]; simp only [if_pos he]
        have hwn : wt (t + 1) = wl ++ (if needP d k bucket X.row = (b : Int) then [X] else []) := by rw [hwl2, ← hws, hwt]; simp only [if_pos he]
        refine ⟨_, _, inferInstance, fun w G cx => cx, by omega, ptrK_intro gN oN (hpN (by omega)) ⟨by omega, ptrK_intro gL oL (hpL (by omega)) ⟨x.n0, x.n1P, x.n1N, x.n1C, x.n2, x.n3, x.n4P, x.n4N, x.n4C, x.n5, x.n6, x.n7, x.n8P, x.n8N, x.n8C, x.n9P, x.n9N, x.n9C, x.n10, x.n11, x.n12, x.n13P, x.n13N, x.n13C, x.n14P, x.n14N, x.n14C, x.n15P, x.n15N, x.n15C, fun w G cx => ⟨x.n0, x.n1P, x.n1N, x.n1C, x.n2, x.n3, x.n4P, x.n4N, x.n4C, x.n5, x.n6, x.n7, x.n8P, x.n8N, x.n8C, x.n9P, x.n9N, x.n9C, x.n10, x.n11, x.n12, x.n13P, x.n13N, x.n13C, x.n14P, x.n14N, x.n14C, x.n15P, x.n15N, x.n15C, by rw [Int.toNat_natCast]; exact hxr _ _ cx.phi.1.1.1, rfl⟩, q, X.row.length, qc, fun w G cx => ⟨q, X.row.length, qc, by rw [Int.toNat_natCast, ← hX]; exact pin_rowAt (iL _ _ (iQ _ _ cx.phi.1.1.1)) ht1 hpc 1 (by simp), rfl⟩, fun w G cx => ?_⟩⟩⟩
        have hN := Need_in (Φ := fun M w => ((QS M w ∧ Elems M w ds gl) ∧ Elems M w ds2 ol) ∧ Elems M w ds3 wl) (x := x) (d := d) (inx := (k : Int)) (bucket := bucket) (p := q) (cap := qc) (r := X.row) (hT := ⟨fun M w h => hT.go M w (i0 M w (iQ M w h.1.1.1))⟩) hxo (hA := ⟨fun M w h => hxa M w h.1.1.1⟩) (hΦ := ⟨fun M w h => slX M w (iQ M w h.1.1.1)⟩) (by omega) (by omega) (len_max f1 f2 |> fun h => by unfold maxLen; omega) (fun v hv => by have := hf.2 v hv; omega)
        simp only [NodeC.v] at hN
        refine hN.toI cx ?_
        clear cx hN
        refine ⟨fun w G cx => cx, Br.intro (fun hb2 => ⟨by omega, ptrK_intro gL oL (hpL (by omega)) fun w G cx => ⟨X.time, q, X.row.length, qc, X.n, by rw [Int.toNat_natCast, ← hX]; exact pin_rowAt (iL _ _ (iQ _ _ cx.phi.1.1.1)) ht1 hpc, fun kb w G cx => ?_⟩⟩) (fun hb2 => ⟨by unfold I64; omega, _, _, l.length - (t + 1), inferInstance, fun w G cx => cx, ⟨t + 1, ds3, wl, rfl, ht1, ?_, rfl, rfl, rfl, rfl⟩, by omega⟩)⟩
        · have hb2 := of_decide_eq_true hb2
          rw [if_pos hb2] at hwn
          obtain ⟨p', c', w', hrun, cx'⟩ := pushD1 (x := X) (PS := fun M w => (QS M w ∧ Elems M w ds gl) ∧ Elems M w ds2 ol) (fun M w h => rep_delta f1 f2 f3 f4 (slX M w (iQ M w h.1.1))) (by omega) cx
          exact ⟨p', _, c', w', hrun, _, _, inferInstance, cx', by unfold I64; omega, _, _, l.length - (t + 1), inferInstance, fun w G cx => cx, ⟨t + 1, ds3 ++ X.cells q qc, wl ++ [X], rfl, ht1, hwn.symm, rfl, rfl, rfl, rfl⟩, by omega⟩
        · have hb2 := of_decide_eq_false hb2
          rw [if_neg hb2, List.append_nil] at hwn
          exact hwn.symm
      · -- these are the same
        have hwo : ol = wl := by
          rw [hwlt, hol, hWb, hwt]
          simp only
          by_cases he : d.inp[k] = node
          · rw [if_pos he, if_pos he]
            rw [decide_eq_true he, Bool.and_true] at hc
            have := of_decide_eq_false hc
            rw [List.take_of_length_le (by omega)]
          · rw [if_neg he, if_neg he]
        obtain ⟨c2, hs2, _, k1, k2⟩ := Ctx.freeze (α := DeltaD) cx cx.phi.2
        have cx2 := (c2.add hs2).weak (Ψ := fun M w => ((QS M w ∧ Elems M w ds gl) ∧ Sl M w wp wl) ∧ Elems M w ds2 ol) fun M w h => ⟨⟨h.1.1.1, h.2⟩, h.1.1.2⟩
        obtain ⟨c3, hs3, _, k3, k4⟩ := Ctx.freeze (α := DeltaD) cx2 cx2.phi.2
        have cx3 := (c3.add hs3).weak (Ψ := fun M w => ((QS M w ∧ Elems M w ds gl) ∧ Sl M w wp wl) ∧ Sl M w op ol) fun M w h => ⟨h.1.1, h.2⟩
        clear cx c2 cx2 c3
        have heq := Equal_in (Φ := fun M w => ((QS M w ∧ Elems M w ds gl) ∧ Sl M w wp wl) ∧ Sl M w op ol) op oc ol wp wc wl (fun M w h => h.2) (fun M w h => h.1.2) (by omega)
        rw [decide_eq_true hwo] at heq
        refine heq.toB cx3 (Br.intro (fun h => by cases h) fun _ => fun w G cx => ?_)
        have hgl40 : gl.length ≤ 16 * 40 := by rw [hgl]; exact pre_le Wb hb16 hWl
        obtain ⟨p', c', w', news, hrun, cx'⟩ := Ctx.appAny (P := Tryd.prog) (ts := 55) (ty := 55) (kb := #[false, false]) (bytes := 40) (c2 := oc) (l := ol) (q := op) cx (by kernel_rfl) delta_one (fun M w h => h.2) (by omega) (by omega)
        have e : gl.length + ol.length = (gl ++ ol).length := by simp
        rw [e] at hrun cx'
        have hgl2 : gl ++ ol = (List.range (b + 1)).flatMap Wb := by rw [range_step, hgl, hol]
        exact ⟨p', _, c', w', hrun, _, _, inferInstance, cx', by unfold I64; omega, _, _, 16 - (b + 1), inferInstance, fun w G cx => cx.weak fun M w h => ⟨h.1.1.1.1, h.1.1.1.2.append h.2⟩, ⟨b + 1, ds ++ news, gl ++ ol, rfl, hb1, hgl2, rfl, rfl, rfl, rfl⟩, by omega⟩
  · -- what each message is
    refine exI_mk (fun n R' Φ' m => ∃ t : Nat, n = t ∧ t ≤ S.length ∧ R = R' ∧ QS = Φ' ∧ m = S.length - t) ⟨⟨R, QS, _, stQ, fun w F c => c, 0, rfl, Nat.zero_le _, rfl, rfl, rfl⟩, ?_⟩
    rintro n R2 Φ2 m _ ⟨t, rfl, ht, rfl, rfl, rfl⟩
    refine Br.intro (fun ht1 => ?_) (fun _ => fun w G cx => ⟨rfl, cx.left.weak iQ⟩)
    have ht1 : t < S.length := by have := of_decide_eq_true ht1; omega
    obtain ⟨q, qc, g1, g2, hrd⟩ := hsc t ht1
    obtain ⟨a, ha, d, hd, k, hk, hdk, b, hb16, s, hs, hX⟩ := route_mem (by rw [hS]; exact List.getElem_mem ht1)
    obtain ⟨C, hC⟩ : ∃ C, chunkP (dealtP d k bucket l b) s = C := ⟨_, rfl⟩
    have hCl := chunk_len hs
    rw [hC] at hX hCl
    rw [hX] at g1 hrd
    have hda : ns[a] = d := by rw [List.getElem?_eq_getElem ha] at hd; exact Option.some.inj hd
    obtain ⟨x, hxc, hxo⟩ := hnc a ha
    rw [hda] at hxo
    have hxa : ∀ M w, QS M w → x.At d M w := fun M w h => by
      obtain ⟨y, h1, _, h3, _⟩ := node_pin (iN M w (iQ M w h)) ha
      rw [hxc] at h1
      rw [node_inj h1, ← hda]
      exact h3
    have hxr : ∀ M w, QS M w → RowAt w gN (oN + a * 16) x.cells := fun M w h => by
      obtain ⟨y, h1, _, _, h4⟩ := node_pin (iN M w (iQ M w h)) ha
      rw [hxc] at h1
      rw [node_inj h1]
      exact h4
    have hinl := hxo.inp
    have hdk : d.inp[k] = node := by rw [List.getD_eq_getElem?_getD, List.getElem?_eq_getElem hk] at hdk; exact hdk
    obtain ⟨gP, oP, hpP⟩ := htp (by omega)
    have hbp : b < pl.length := by omega
    have hpb : pl.getD b 0 = pl[b] := by rw [List.getD_eq_getElem?_getD, List.getElem?_eq_getElem hbp]; rfl
    refine ⟨by omega, ptrK_intro gS oS (hpS (by omega)) fun w G cx => ⟨0, a, k, b, 0, q, C.length, qc, by rw [Int.toNat_natCast]; exact rowAt_tail (hrd _ _ cx.phi).2, fun _ w G cx => ?_⟩⟩
    have htI := (hxa _ _ cx.phi).1.there
    clear cx
    obtain ⟨gI, oI, hpI⟩ := htI (by omega)
    refine Br.intro (fun h => ?_) (fun _ => fun w G cx => ?_)
    · exfalso
      simp only [Bool.or_eq_true, decide_eq_true_eq] at h
      omega
    refine ⟨by omega, ptrK_intro gS oS (hpS (by omega)) ⟨pl.getD b 0, by rw [Int.toNat_natCast]; exact (hrd _ _ cx.phi).2 0 (by simp [SendD.cells]), by omega, ptrK_intro gP oP hpP ⟨pl.getD b 0, by rw [Int.toNat_natCast, hpb]; exact sl_int (by rw [← hpP]; exact aP.go _ _ (iQ _ _ cx.phi)) hbp, fun _ => by omega, ptrK_intro gN oN (hpN (by omega)) ⟨x.n1P, d.inp.length, x.n1C, fun _ => by rw [Int.toNat_natCast, ← hinl]; exact hxr _ _ cx.phi 1 (by simp), ?_⟩⟩⟩⟩
    clear cx
    refine Br.intro (fun h => ?_) (fun _ => fun w G cx => ⟨by omega, ptrK_intro gN oN (hpN (by omega)) ⟨x.n1P, d.inp.length, x.n1C, by rw [Int.toNat_natCast, ← hinl]; exact hxr _ _ cx.phi 1 (by simp), by omega, ptrK_intro gI oI hpI ⟨d.inp[k], by rw [Int.toNat_natCast]; exact sl_int (by rw [← hpI]; exact (hxa _ _ cx.phi).1) hk, Br.intro (fun h => ?_) (fun _ => ⟨by unfold I64; omega, R, QS, S.length - (t + 1), stQ, fun w G cx => cx, ⟨t + 1, rfl, ht1, rfl, rfl, rfl⟩, by omega⟩)⟩⟩⟩)
    · exfalso
      simp only [Bool.or_eq_true, decide_eq_true_eq] at h
      omega
    · exact absurd hdk (of_decide_eq_true h)
end
end Go.Proofs.YtbkpfhhhbhaecaaDoor
end

/-
  From what a row lists as laid to the table of the powers of ten.
-/
section
set_option linter.unusedVariables false
set_option linter.unusedSimpArgs false
namespace Go.Proofs.YtbkpfhhhbhaecaaDoor
open Go.Vc Go.RowKit

theorem tab_drop {P : Program} {w : World} : ∀ (n : Nat) {l : List (String × DataW Unit)}, laidMet P l w → laidMet P (l.drop n) w
  | 0, l, h => by rw [List.drop_zero]; exact h
  | n + 1, [], h => h
  | n + 1, x :: l, h => by rw [List.drop_succ_cons]; exact tab_drop n h.tail
/-- the table, out of a list that has it at the n-th place -/
theorem la_tab {W : World} {l : List (String × DataW Unit)} (n : Nat) (h : laidMetH Tryd.prog l W) (hp : (l.all fun x => x.2.handleName?.isNone) = true) (hd : ∃ r, l.drop n = ("internal/strconv.uint64pow10", Lib.tabData .u64 Lib.pow10Tab) :: r) : TabI [] W := by
  rw [MakeChecks.laidMetH_plain Tryd.prog l W hp] at h
  obtain ⟨r, hr⟩ := hd
  have h2 := tab_drop n h
  rw [hr] at h2
  exact Tab.start (Lib.tabIs_of_head (k := .u64) (zs := Lib.pow10Tab) (g := 1) (t := 189) (e := 182) (n := 20) (by kernel_rfl) (by kernel_rfl) (by kernel_rfl) (by kernel_rfl) (by kernel_rfl) (by kernel_rfl) h2)

end Go.Proofs.YtbkpfhhhbhaecaaDoor
end

section
set_option linter.unusedVariables false
set_option linter.unusedSimpArgs false
namespace Go.Proofs.YtbkpfhhhbhaecaaDoor
open Go.ChangeShapes Go.WideShapes Go.ChangeAt Go.RowKit Go.Vc


theorem df_own : ownKnob Tryd.prog.godebug = none := by kernel_rfl
theorem df_laid : laidOutB Tryd.prog = true := by kernel_rfl

theorem trodAll_n {H : Type} {enc : TypeId × Value → H} {P : Program} {w : World} {base : Nat} {spare : Nat → Bool} {held : Bool} {t0 t1 t2 t3 t4 : TypeId} {args : Array Value} {ds : List (DataW H)} {ps : List MemPlace} (h : DataW.TrodAll enc P w base spare held [t0, t1, t2, t3, t4] args.toList ds ps) :
    ∃ v0 v1 v2 v3 v4 d0 d1 d2 d3 d4 p0 p1 p2 p3 p4, args = #[v0, v1, v2, v3, v4] ∧ ds = [d0, d1, d2, d3, d4] ∧ ps = p0 ++ p1 ++ p2 ++ p3 ++ p4 ∧ DataW.Trod enc P w base spare held t0 v0 d0 p0 ∧ DataW.Trod enc P w base spare held t1 v1 d1 p1 ∧ DataW.Trod enc P w base spare held t2 v2 d2 p2 ∧ DataW.Trod enc P w base spare held t3 v3 d3 p3 ∧ DataW.Trod enc P w base spare held t4 v4 d4 p4 := by
  obtain ⟨v0, vs0, d0, ds0, p0, q0, hargs, rfl, rfl, h0, h⟩ := trodAll_cons h
  obtain ⟨v1, vs1, d1, ds1, p1, q1, rfl, rfl, rfl, h1, h⟩ := trodAll_cons h
  obtain ⟨v2, vs2, d2, ds2, p2, q2, rfl, rfl, rfl, h2, h⟩ := trodAll_cons h
  obtain ⟨v3, vs3, d3, ds3, p3, q3, rfl, rfl, rfl, h3, h⟩ := trodAll_cons h
  obtain ⟨v4, vs4, d4, ds4, p4, q4, rfl, rfl, rfl, h4, h⟩ := trodAll_cons h
  obtain ⟨rfl, rfl, rfl⟩ := trodAll_nil h
  exact ⟨v0, v1, v2, v3, v4, d0, d1, d2, d3, d4, p0, p1, p2, p3, p4, by cases args; simp_all, rfl, by simp, h0, h1, h2, h3, h4⟩

theorem door_met (os : Os) (args : Array Value) : laidMetH Tryd.prog Rows.placeRoutesRow.laid ((World.doorLaid Tryd.prog 400 os).forCall (fun _ _ => 0) ⟨#[], args, []⟩).memory :=
  laidMetH_of_parts3 (fuel := 8) (laidMet_of_run' 8 (by kernel_rfl) (by kernel_rfl)) (by kernel_rfl) (by kernel_rfl)

set_option maxRecDepth 100000 in
theorem law_lifted (os : Os) (started : os.Started) (H : Type) (enc : TypeId × Value → H) :
    ReturnsInHanded {} Tryd.checked os 7 .any (fun w args => (Rows.placeRoutesSpec.pre enc Tryd.prog Tryd.f7 Rows.placeRoutesRow.domain false w args ∧ laidMetH Tryd.prog Rows.placeRoutesRow.laid w) ∧ sizedMet enc Tryd.prog Tryd.f7 (OpenSpec.ofChange Rows.placeRoutesSpec) false w args) (Rows.placeRoutesSpec.post enc Tryd.prog Tryd.f7 false true false false) := by
  refine lawTrueLaid (C := Tryd.checked) (tb := 4) df_own started (by kernel_rfl) Tryd.func7 df_laid rfl ?_ rfl Tryd.underlying4 (by kernel_rfl)
    (ChangeSpec.witness_shaped (enc := enc) (C := Tryd.checked) (os := os) (X := fun w _ => laidMetH Tryd.prog Rows.placeRoutesRow.laid w) false (World.doorLaid Tryd.prog 400 os) #[.slice none 0 0, .slice none 0 0, .int .i64 0, .int .i64 0, .slice none 0 0] 8 rfl (World.shaped_of_RefB (by kernel_rfl) (by kernel_rfl)) (by kernel_rfl) (by kernel_rfl) (by kernel_rfl) (door_met os _)) ?_
  · intro ds hd
    match ds, hd with
    | [_, _, _, _, _], _ => exact ⟨rfl, rfl, rfl⟩
  · intro W base args ds p hval0 hA0 _ hL
    have hval : ∀ (j : Nat) t v, Tryd.f7.params[j]? = some t → args[j]? = some v → Value.okWide Tryd.prog W .any base t v := hval0
    have hA : DataW.TrodAll enc Tryd.prog W 0 (fun _ => true) true Tryd.f7.params.toList args.toList ds p := hA0
    rw [Tryd.params7] at hA hval
    obtain ⟨v0, v1, v2, v3, v4, d0, d1, d2, d3, d4, p0, p1, p2, p3, p4, rfl, rfl, rfl, h0, h1, h2, h3, h4⟩ := trodAll_n hA
    obtain ⟨nodesp, nodesc, nodes, rfl, nodesa, nodesb, s0⟩ := open_sl (α := NodeD) 12 Tryd.underlying67 (hval 0 67 v0 rfl rfl) (by kernel_rfl) h0
    obtain ⟨plp, plc, pl, rfl, pla, plb, s1⟩ := open_sl (α := Int) 12 Tryd.underlying22 (hval 1 22 v1 rfl rfl) (by kernel_rfl) h1
    obtain ⟨node, rfl, rfl, rfl, nodew⟩ := open_int Tryd.underlying3 (hval 2 3 v2 rfl rfl) h2
    obtain ⟨bucket, rfl, rfl, rfl, bucketw⟩ := open_int Tryd.underlying3 (hval 3 3 v3 rfl rfl) h3
    obtain ⟨lp, lc, l, rfl, la, lb, s4⟩ := open_sl (α := DeltaD) 12 Tryd.underlying55 (hval 4 55 v4 rfl rfl) (by kernel_rfl) h4
    have st0 : Stable (fun M w => Sl M w lp l) := inferInstance
    have st1 : Stable (fun M w => Sl M w plp pl ∧ Sl M w lp l) := instStableAnd (fun M w => Sl M w plp pl) (fun M w => Sl M w lp l)
    have st2 : Stable (fun M w => Sl M w nodesp nodes ∧ Sl M w plp pl ∧ Sl M w lp l) := instStableAnd (fun M w => Sl M w nodesp nodes) (fun M w => Sl M w plp pl ∧ Sl M w lp l)
    have st3 : Stable (fun M w => TabI M w ∧ Sl M w nodesp nodes ∧ Sl M w plp pl ∧ Sl M w lp l) := instStableAnd (fun M w => TabI M w) (fun M w => Sl M w nodesp nodes ∧ Sl M w plp pl ∧ Sl M w lp l)
    have fin : GivesIn (fun M w => TabI M w ∧ Sl M w nodesp nodes ∧ Sl M w plp pl ∧ Sl M w lp l) Tryd.prog 7 _ (.bool true) := PlaceRoutes_in (Φ := (fun M w => TabI M w ∧ Sl M w nodesp nodes ∧ Sl M w plp pl ∧ Sl M w lp l)) (nP := nodesp) (nC := nodesc) (pP := plp) (pC := plc) (lP := lp) (lC := lc) (ns := nodes) (pl := pl) (l := l) (node := node) (bucket := bucket) (hT := ⟨fun _ _ h => h.1⟩) (hN := ⟨fun _ _ h => h.2.1⟩) (hP := ⟨fun _ _ h => h.2.2.1⟩) (hL := ⟨fun _ _ h => h.2.2.2⟩) (Nat.le_trans nodesa nodesb) (Nat.le_trans la lb)
    exact fin.law ⟨la_tab 2 hL (by kernel_rfl) ⟨_, rfl⟩, s0, s1, s4⟩

theorem row_holds : Rows.PlaceRoutesSaid :=
  OpenClaim.holds_of_wide 7 Tryd.f7 rfl rfl rfl rfl rfl rfl rfl ⟨rfl, rfl, rfl, rfl, rfl⟩ rfl rfl rfl rfl rfl (by kernel_rfl) Tryd.func7 (by kernel_rfl)
    (of_decide_eq_true (by kernel_rfl)) (by unfold Func.isWrapper; first | (rw [if_pos (by decide +kernel)]; kernel_rfl) | (rw [if_neg (by decide +kernel)]; exact ⟨rfl, rfl⟩))
    (fun os started H enc _ => law_lifted os started H enc)

theorem routes_holds : Rows.PlaceRoutesCardSaid :=
  Claim7.holds_tied_plain_at .later [] [.data, .data, .data] true Rows.placeRoutesCard.stood.harness true
    row_holds (fun _ h => by cases h) (by kernel_rfl) (fun _ h => by cases h) placeRoutes_row_tie rfl ⟨rfl, rfl⟩ (by kernel_rfl) rfl
    (fun f fn hf hfn => by
      obtain rfl : f = 7 := Option.some.inj ((show Tryd.prog.funcNamed Rows.placeRoutesRow.func = some 7 by kernel_rfl).symm.trans hf) |>.symm
      obtain rfl : fn = Tryd.f7 := (Option.some.inj (Tryd.func7.symm.trans hfn)).symm
      exact ⟨by kernel_rfl, fun j t ht => by
        rw [Tryd.params7] at ht
        have hm := Array.mem_of_getElem? ht
        have hall : ((Tryd.f7.params.toList).all fun u => !Tryd.prog.wantsStandIn u) = true := by kernel_rfl
        rw [Tryd.params7] at hall
        exact (show Tryd.prog.wantsStandIn t = false by simpa using List.all_eq_true.1 hall t (by simpa using hm))⟩)
    (by kernel_rfl)

end Go.Proofs.YtbkpfhhhbhaecaaDoor
end

