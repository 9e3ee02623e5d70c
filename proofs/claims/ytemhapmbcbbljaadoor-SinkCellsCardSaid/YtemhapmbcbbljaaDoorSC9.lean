/-
  For every input erratalaw43.SinkCells returns true, does not panic, comes to an end, and leaves what came in as it was; the variables that its row lists are as the program's text lays them.
  Conditions: none beyond the given statement's own (SinkCellsCardSaid).
-/
import Derived.Test.YtemhapmbcbbljaaDoorSC8
import Derived.Test.YtemhapmbcbbljaaDoorSC7
import Derived.Test.YtemhapmbcbbljaaDoorCards
import Derived.MakeChecks
import Derived.Stop.LaidErr
import Derived.Lib.LaidTab
import Derived.Test.YtemhapmbcbbljaaDoorSC5
import Derived.Test.YtemhapmbcbbljaaDoorTie
import Derived.SevenTiedAt
import Derived.LaidMore
import Derived.ChangeMaps5
import Derived.Test.YtemhapmbcbbljaaDoorRows

set_option linter.unusedVariables false
set_option linter.unusedSimpArgs false
section
namespace Go.Proofs.YtemhapmbcbbljaaDoor
open Go.Vc
theorem net_text {st : SkD} (hI : SkI st) : ∀ d ∈ netP st.lines, ∀ v ∈ d.row, v.text.size ≤ 10000 := fun d hd => consP_row (P := fun r => ∀ v ∈ r, v.text.size ≤ 10000) (l := st.lines.map LineD.d) (fun x hx => by
  obtain ⟨y, hy, rfl⟩ := List.mem_map.1 hx
  exact fun v hv => by have := right_small (hI.row y hy) v hv; omega) d hd
theorem net_right {st : SkD} (hI : SkI st) : ∀ d ∈ netP st.lines, rightR d.row = true := fun d hd => consP_row (P := fun r => rightR r = true) (l := st.lines.map LineD.d) (fun x hx => by
  obtain ⟨y, hy, rfl⟩ := List.mem_map.1 hx
  exact hI.row y hy) d hd
section
variable {Φ : PW} {W w : World} {R S G : List Own} {p : Option Addr} {cap : Nat}
set_option maxHeartbeats 32000000 in
theorem CellsLaw_pin [Stable Φ] [hT : Has Φ TabI] {l : List OpD} {g o : Nat} {cs : List (List Value)} {kp : Option Addr} {kc : Nat} {key : List Int} [hK : Has Φ (fun M w => Sl M w kp key)] (hkb : key.length ≤ 17592186044416) (hp : 0 < l.length → p = some ⟨g, o, none⟩) (hP : ∀ M w, Φ M w → Pin g o cs l M w) (hlen : l.length ≤ maxLen) :
    GivesIn Φ Tryd.prog F.erratalaw43_SinkCells #[.slice kp key.length kc, .slice p l.length cap] (.bool true) := by
  suffices hgo : There kp key.length → (∀ j (hj : j < l.length), ∃ p c, cs.getD j [] = l[j].cells p c ∧ l[j].l.length ≤ c ∧ c ≤ maxLen ∧ I64 l[j].op ∧ I64 l[j].batch) → GivesIn Φ Tryd.prog F.erratalaw43_SinkCells #[.slice kp key.length kc, .slice p l.length cap] (.bool true) from
    ⟨fun W0 w0 S0 c0 => (hgo (hK.go _ _ c0.phi).there fun j hj => pin_op (hP _ _ c0.phi) hj).go W0 w0 S0 c0⟩
  intro htk hc
  refine gives_in (Berratalaw43_SinkCells_run kp key.length kc p l.length cap) fun W R => ?_
  refine fun w G cx => small43_in.toB cx ?_
  clear cx
  refine fun w G cx => New_to (key := key) (kind := 1) hkb cx (fun h0 => ?_) fun q0 hok hq0 st0 => ?_
  · clear cx
    refine fun w G cx => (few43_in (l := l) (n := 30) hp hP hlen).toB cx ?_
    clear cx
    exact Br.intro (fun _ => fun w G cx => ⟨rfl, cx.left⟩) (fun _ => Br.intro (fun _ => fun w G cx => ⟨rfl, cx.left⟩) (fun _ => Br.intro (fun _ => fun w G cx => ⟨rfl, cx.left⟩) (fun h => by cases h)))
  clear cx
  have out : ∀ {w : World} {G : List Own} {q : KP} {st : SkD} {Ψ : PW}, Stable Ψ → (∀ M w, Ψ M w → Φ M w) → Ctx W w ((SkO q st ++ R) ++ G) Ψ → Ctx W w R Φ := fun {w G q st Ψ} hs hi cx => (Ctx.sub (Φ := Ψ) cx ((List.sublist_append_right _ _).trans (List.sublist_append_left _ _))).weak hi
  refine fun w G cx => (few43_in (l := l) (n := 30) hp (fun M w h => hP M w h.1) hlen).toB cx ?_
  clear cx
  refine Br.intro (fun _ => fun w G cx => ⟨rfl, out st0 (fun M w h => h.1) cx⟩) (fun hf => Br.intro (fun _ => fun w G cx => ⟨rfl, out st0 (fun M w h => h.1) cx⟩) (fun hk3 => Br.intro (fun h => by cases h) (fun _ => ?_)))
  have hf : fewO l 30 = true := by simpa using hf
  obtain ⟨hl30, hl8⟩ := fewO_out hf
  have hkl : key.length ≤ 3 := by have := of_decide_eq_false hk3; omega
  -- the batches
  have stI : ∀ (q : KP) (s : SkD) (ds : List Value) (o : List DeltaD), Stable (fun M w => (Φ M w ∧ SkF q s M w) ∧ Elems M w ds o) := fun q s ds o => instStableAnd (fun M w => Φ M w ∧ SkF q s M w) (fun M w => Elems M w ds o)
  obtain ⟨INV, hINV⟩ : ∃ I : Option Addr → Nat → Nat → Int → List Own → PW → Nat → Prop, ∀ sp sn sc iI R' Φ' k, I sp sn sc iI R' Φ' k ↔ ∃ (i : Nat) (q : KP) (st : SkD) (ds : List Value), iI = i ∧ i ≤ l.length ∧ q.sb = q0.sb ∧ SkQ q st ∧ OnceI 1 key st i ∧ sn = (st.lines.map LineD.d).length ∧ R' = .buf sp (st.lines.map LineD.d).length sc ds 39 3 :: (SkO q st ++ R) ∧ Φ' = (fun M w => (Φ M w ∧ SkF q st M w) ∧ Elems M w ds (st.lines.map LineD.d)) ∧ k = l.length - i := ⟨_, fun _ _ _ _ _ _ _ => Iff.rfl⟩
  refine exI_mk INV ⟨⟨.buf none 0 0 [] 39 3 :: (SkO q0 (newK 1 key) ++ R), (fun M w => (Φ M w ∧ SkF q0 (newK 1 key) M w) ∧ Elems M w [] ([] : List DeltaD)), l.length - 0, inferInstance, fun w G cx => (cx.weak fun M w h => ⟨h, Elems.nil⟩).nobuf 39 3, (hINV _ _ _ _ _ _ _).2 ⟨0, q0, newK 1 key, [], rfl, Nat.zero_le _, rfl, hq0, once0 hok (by omega), rfl, rfl, rfl, rfl⟩⟩, ?_⟩
  intro sp sn sc iI R1 Φ1 k1 hst1 hinv
  obtain ⟨i, q, st, ds, rfl, hi, hsb, hq, hH, rfl, rfl, rfl, rfl⟩ := (hINV _ _ _ _ _ _ _).1 hinv
  clear hinv
  have hn : 8 * i + 1 ≤ 400000 := by omega
  have b1 := hH.bats
  have b2 := hH.lines
  have b3 := hH.aside
  have hsl0 : (st.lines.map LineD.d).length = st.lines.length := List.length_map _
  rw [← hsb]
  refine Br.intro (fun hlt => ?_) (fun hge => fun w G cx => ?_)
  · have hlt : i < l.length := by have := of_decide_eq_true hlt; omega
    obtain ⟨r, rc, he, h1, h2, h3, h4⟩ := hc i hlt
    have hrow : ∀ {w : World} {S : List Own} {Ψ : PW}, (∀ M w, Ψ M w → Φ M w) → Ctx W w S Ψ → RowAt w g (o + ((i : Nat) : Int).toNat * 3) (l[i].cells r rc) := fun {w S Ψ} hi cx => by
      rw [Int.toNat_natCast]
      exact pino_rowAt (hP _ _ (hi _ _ cx.phi)) hlt he
    obtain ⟨L, hL⟩ : ∃ L, l[i].l = L := ⟨_, rfl⟩
    obtain ⟨b, hb⟩ : ∃ b, l[i].batch = b := ⟨_, rfl⟩
    obtain ⟨op, hop⟩ : ∃ op, l[i].op = op := ⟨_, rfl⟩
    have hL8 : L.length ≤ 8 := by rw [← hL]; exact hl8 _ (List.getElem_mem hlt)
    have hcells : l[i].cells r rc = [.int .i64 op, .int .i64 b, .slice r L.length rc] := by rw [← hL, ← hb, ← hop]
    rw [hcells] at hrow
    rw [hb] at h4
    have hSl : ∀ M w, Φ M w → Sl M w r L := fun M w h => by rw [← hL]; exact pino_sl (hP M w h) hlt he
    refine ⟨by omega, ptrK_intro g o (hp (by omega)) fun w G cx => ⟨b, hrow (fun M w h => h.1.1) cx 1 (by show 1 < 3; decide), fun w G cx => (Has_q hq hH.inv hH.size hn).toB (R := .buf sp (st.lines.map LineD.d).length sc ds 39 3 :: R) (Ctx.mid cx) ⟨_, _, stI q st ds _, fun w G cx => cx, by omega, ptrK_intro g o (hp (by omega)) ⟨by omega, ptrK_intro g o (hp (by omega)) ⟨b, fun w G cx => ⟨_, hrow (fun M w h => h.1.1) cx 1 (by show 1 < 3; decide), rfl⟩, r, L.length, rc, fun w G cx => ⟨_, _, _, hrow (fun M w h => h.1.1) cx 2 (by show 2 < 3; decide), rfl⟩, fun w G cx => ?_⟩⟩⟩⟩⟩
    obtain ⟨csL, cx⟩ := srcOf cx (hSl _ _ cx.phi.1.1)
    have htL := (hSl _ _ cx.phi.1.1.1).there
    have hc7 : Rows7 csL L := rows7 cx.phi.2.2
    have stL : Stable (fun M w => ((Φ M w ∧ SkF q st M w) ∧ Elems M w ds (st.lines.map LineD.d)) ∧ SrcF r L csL M w) := inferInstance
    have hFq : Has (fun M w => ((Φ M w ∧ SkF q st M w) ∧ Elems M w ds (st.lines.map LineD.d)) ∧ SrcF r L csL M w) (SkF q st) := ⟨fun M w h => h.1.1.2⟩
    have hLq : Has (fun M w => ((Φ M w ∧ SkF q st M w) ∧ Elems M w ds (st.lines.map LineD.d)) ∧ SrcF r L csL M w) (fun M w => Sl M w r L) := ⟨fun M w h => hSl M w h.1.1.1⟩
    refine Deliver_use (R := .buf sp (st.lines.map LineD.d).length sc ds 39 3 :: R) (b := b) (L := L) hq hH.inv hH.size hn (by omega) cx fun q2 hsb2 hq2 st3 => ?_
    clear cx
    have hO : OnceI 1 key (delivK st b L).2 (i + 1) := op_o hH 4 h4 hL8
    have hsum := deliv_sum st b L
    obtain ⟨m, s2, hm⟩ : ∃ m s2, delivK st b L = (m, s2) := ⟨_, _, rfl⟩
    rw [hm] at hq2 st3 hO hsum ⊢
    have hq2 : SkQ q2 s2 := hq2
    have hO : OnceI 1 key s2 (i + 1) := hO
    have hsum : s2.lines = st.lines ++ (if (decide (m = 0) && !hasK st b) = true then L else []) := hsum
    obtain ⟨gd, hgd⟩ : ∃ gd, (decide (m = 0) && !hasK st b) = gd := ⟨_, rfl⟩
    rw [hgd] at hsum
    obtain ⟨PS, hPS⟩ : ∃ PS : PW, PS = (fun M w => (Φ M w ∧ SrcF r L csL M w) ∧ SkF q2 s2 M w) := ⟨_, rfl⟩
    have stP : Stable PS := by rw [hPS]; exact inferInstance
    have iΦ : ∀ M w, PS M w → Φ M w := fun M w h => by rw [hPS] at h; exact h.1.1
    have iS : ∀ M w, PS M w → SrcF r L csL M w := fun M w h => by rw [hPS] at h; exact h.1.2
    have iF : ∀ M w, PS M w → SkF q2 s2 M w := fun M w h => by rw [hPS] at h; exact h.2
    have src : Src [] PS r L csL := src_fact htL iS
    refine exI_mk (fun p2 n2 c2 jI R' Φ' k => ∃ (j : Nat) (ds2 : List Value) (o2 : List DeltaD), jI = j ∧ j ≤ L.length ∧ (gd = false → j = 0) ∧ o2 = st.lines.map LineD.d ++ (L.take j).map LineD.d ∧ n2 = o2.length ∧ R' = .buf p2 o2.length c2 ds2 39 3 :: (SkO q2 s2 ++ R) ∧ Φ' = (fun M w => PS M w ∧ Elems M w ds2 o2) ∧ k = L.length - j)
      ⟨⟨.buf sp (st.lines.map LineD.d).length sc ds 39 3 :: (SkO q2 s2 ++ R), (fun M w => PS M w ∧ Elems M w ds (st.lines.map LineD.d)), _, inferInstance, fun w G cx => (Ctx.front cx).weak fun M w h => by rw [hPS]; exact ⟨⟨⟨h.1.1.1.1, h.1.2⟩, h.2⟩, h.1.1.2⟩, 0, ds, _, rfl, Nat.zero_le _, fun _ => rfl, by simp, rfl, rfl, rfl, rfl⟩, ?_⟩
    rintro p2 _ c2 jI R2 Φ2 k2 _ ⟨j, ds2, o2, rfl, hj, hj0, ho2, rfl, rfl, rfl, rfl⟩
    have ho2l : o2.length ≤ 400000 := by rw [ho2, List.length_append, List.length_map, List.length_map, List.length_take]; omega
    refine fun w G cx => ⟨by omega, ptrK_intro g o (hp (by omega)) ⟨r, L.length, rc, hrow (fun M w h => iΦ M w h.1) cx 2 (by show 2 < 3; decide), ?_⟩⟩
    clear cx
    rw [Bool.and_assoc, hgd]
    refine Br.intro (fun hcond => ?_) (fun hcond => ?_)
    · obtain ⟨hjl, hg1⟩ : j < L.length ∧ gd = true := by
        rw [Bool.and_eq_true] at hcond
        exact ⟨by have := of_decide_eq_true hcond.1; omega, hcond.2⟩
      obtain ⟨b0, o0, hpL⟩ := src.ptr (by omega)
      obtain ⟨rr, rrc, hee, f1, f2, f3⟩ := hc7 j hjl
      have hr7 : ∀ {w : World} {S : List Own}, Ctx W w S (fun M w => PS M w ∧ Elems M w ds2 o2) → RowAt w b0 (o0 + j * 7) (L[j].cells rr rrc) := fun {w S} cx => src_at (S := []) src hpL (G := S) (cx.weak fun M w h => h.1) hee
      have hrw2 : ∀ {w : World} {S : List Own}, Ctx W w S (fun M w => PS M w ∧ Elems M w ds2 o2) → w.cell? ⟨g, o + ((i : Nat) : Int).toNat * 3 + 2, none⟩ = some (.slice r L.length rc) := fun {w S} cx => hrow (fun M w h => iΦ M w h.1) cx 2 (by show 2 < 3; decide)
      have hst2 : Stable (fun M w => PS M w ∧ Elems M w ds2 o2) := inferInstance
      refine ⟨_, _, hst2, fun w G cx => cx, by omega, ptrK_intro g o (hp (by omega)) ⟨by omega, ptrK_intro g o (hp (by omega)) ⟨by omega, ptrK_intro g o (hp (by omega)) ⟨r, L.length, rc, fun w G cx => ⟨_, _, _, hrw2 cx, rfl⟩, r, L.length, rc, fun w G cx => ⟨_, _, _, hrw2 cx, rfl⟩, r, L.length, rc, fun w G cx => ⟨_, _, _, hrw2 cx, rfl⟩, by omega, ptrK_intro b0 o0 hpL ⟨by omega, ptrK_intro b0 o0 hpL ⟨by omega, ptrK_intro b0 o0 hpL ⟨L[j].time, fun w G cx => ⟨_, by rw [Int.toNat_natCast]; exact hr7 cx 2 (by show 2 < 7; decide), rfl⟩, rr, L[j].row.length, rrc, fun w G cx => ⟨_, _, _, by rw [Int.toNat_natCast]; exact hr7 cx 3 (by show 3 < 7; decide), rfl⟩, L[j].n, fun w G cx => ⟨_, by rw [Int.toNat_natCast]; exact hr7 cx 4 (by show 4 < 7; decide), rfl⟩, fun kb => ⟨fun w G cx => Ctx.drop1 cx, fun w G cx => ?_⟩⟩⟩⟩⟩⟩⟩⟩
      obtain ⟨p', c', w', hrun, cx'⟩ := pushLD (x := L[j]) (PS := PS) (fun M w h => src_sl src hjl hee h) f1 f2 f3 (by omega) cx
      have htk : o2 ++ [L[j].d] = st.lines.map LineD.d ++ (L.take (j + 1)).map LineD.d := by rw [ho2, List.take_succ_eq_append_getElem hjl, List.map_append, List.append_assoc]; rfl
      have hst3 : Stable (fun M w => PS M w ∧ Elems M w (ds2 ++ L[j].d.cells rr rrc) (o2 ++ [L[j].d])) := inferInstance
      exact ⟨p', _, c', w', hrun, _, _, hst3, cx', by unfold I64; omega, _, _, L.length - (j + 1), hst3, fun w G cx => cx, ⟨j + 1, _, o2 ++ [L[j].d], by omega, hjl, (fun h => by rw [hg1] at h; cases h), htk, rfl, rfl, rfl, rfl⟩, by omega⟩
    · have hfin : o2 = s2.lines.map LineD.d := by
        rw [ho2, hsum, List.map_append]
        congr 1
        by_cases hg1 : gd = true
        · rw [hg1, Bool.and_true] at hcond
          have := of_decide_eq_false hcond
          rw [if_pos hg1, List.take_of_length_le (by omega)]
        · rw [if_neg hg1, hj0 (by simpa using hg1)]; rfl
      subst hfin
      exact ⟨by unfold I64; omega, _, _, l.length - (i + 1), stI q2 s2 ds2 _, fun w G cx => cx.weak fun M w h => ⟨⟨iΦ M w h.1, iF M w h.1⟩, h.2⟩, (hINV _ _ _ _ _ _ _).2 ⟨i + 1, q2, s2, ds2, by omega, hlt, by rw [hsb2, hsb], hq2, hO, rfl, rfl, rfl, rfl⟩, by omega⟩
  -- the net
  clear hc
  have hge : i = l.length := by have := of_decide_eq_false hge; omega
  have hll := hH.size.lines
  have hrs : ∀ x ∈ st.lines.map LineD.d, x.row.length ≤ 1000000 := fun x hx => by
    obtain ⟨y, hy, rfl⟩ := List.mem_map.1 hx
    have := right_len (hH.inv.row y hy)
    show y.row.length ≤ _
    omega
  obtain ⟨cx2, hsl, _, s1, s2⟩ := Ctx.freeze (α := DeltaD) cx cx.phi.2
  have cx3 := (cx2.add hsl).weak (Ψ := fun M w => (Φ M w ∧ SkF q st M w) ∧ Sl M w sp (st.lines.map LineD.d)) fun M w h => ⟨h.1.1, h.2⟩
  clear cx cx2 hsl
  obtain ⟨sum, hsum⟩ : ∃ sum, st.lines.map LineD.d = sum := ⟨_, rfl⟩
  have hnet : netP st.lines = consP sum := by rw [← hsum]; rfl
  rw [hsum] at hrs s1 cx3 hsl0 ⊢
  refine ((NetS_q (Φ := fun M w => (Φ M w ∧ SkF q st M w) ∧ Sl M w sp sum) (hF := ⟨fun M w h => h.1.2⟩) hq hH.inv hH.size hn).go W w (R ++ G) (Ctx.inl cx3)).mono fun e w' ⟨p0, c0, he, g1, g2, cx⟩ => ?_
  clear cx3
  have hnl := net_len st.lines
  have hrow := net_row hH.inv
  have hfit : ∀ d ∈ netP st.lines, FitK key d.row := by have := net_fit hH.made; rw [hH.key] at this; exact this
  have htx := net_text hH.inv
  have hrt := net_right hH.inv
  have hNorm : Norm (netP st.lines) := (consP_norm _).1
  have hsk : skCells st = cellsK key (netP st.lines) := by unfold skCells; rw [if_pos hH.kind, hH.key]
  obtain ⟨D, hD⟩ : ∃ D, netP st.lines = D := ⟨_, rfl⟩
  rw [hD] at hnl hrow hfit htx hrt hNorm hsk g1 he cx hnet
  obtain ⟨gD, oD, cD, hpD, cx⟩ := cx.pin cx.phi.2
  obtain ⟨QS, hQS⟩ : ∃ QS : PW, QS = (fun M w => (((Φ M w ∧ SkF q st M w) ∧ Sl M w sp sum) ∧ Sl M w p0 D) ∧ Pin gD oD cD D M w) := ⟨_, rfl⟩
  have stQ : Stable QS := by rw [hQS]; exact inferInstance
  have iQ : ∀ M w, QS M w → Φ M w := fun M w h => by rw [hQS] at h; exact h.1.1.1.1
  have iP : ∀ M w, QS M w → Pin gD oD cD D M w := fun M w h => by rw [hQS] at h; exact h.2
  have xF : Has QS (SkF q st) := ⟨fun M w h => by rw [hQS] at h; exact h.1.1.1.2⟩
  have xS : ∀ M w, QS M w → Sl M w sp sum := fun M w h => by rw [hQS] at h; exact h.1.1.2
  have xD : ∀ M w, QS M w → Sl M w p0 D := fun M w h => by rw [hQS] at h; exact h.1.2
  have xT : Has QS TabI := ⟨fun M w h => hT.go M w (iQ M w h)⟩
  have xK : Has QS (fun M w => Sl M w kp key) := ⟨fun M w h => hK.go M w (iQ M w h)⟩
  rw [← hQS] at cx
  clear hQS
  have hcs := Ctx.cells cx iP
  refine ⟨p0, _, c0, he, SkO q st ++ R, QS, stQ, cx.outl, ?_⟩
  clear cx he
  have hsame := Same_in (Φ := QS) p0 c0 D sp sc sum xD xS (by omega) (by omega) (fun x hx => by have := hrow x hx; omega) hrs
  rw [show decide (consP D = consP sum) = true from decide_eq_true (by rw [hnet, consP_cons])] at hsame
  refine fun w G cx => hsame.toB cx (Br.intro (fun h => by cases h) fun _ => fun w G cx => ?_)
  have hcon := Consolidated_in (Φ := QS) p0 c0 D xD (by omega)
  rw [norm_cons hNorm] at hcon
  refine hcon.toB cx (Br.intro (fun h => by cases h) fun _ => fun w G cx => ?_)
  clear hsame hcon
  refine New_to (R := SkO q st ++ R) (key := key) (kind := 1) hkb cx (fun h0 => by rw [hok] at h0; cases h0) fun qt _ hqt st4 => ?_
  clear cx
  refine Br.intro (fun h => by cases h) (fun _ => ?_)
  -- the lines of the net
  have rdD : ∀ {w : World} {S : List Own} {Ψ : PW}, (∀ M w, Ψ M w → QS M w) → Ctx W w S Ψ → ∀ {j : Nat} (hj : j < D.length) {p : Option Addr} {c : Nat}, cD.getD j [] = D[j].cells p c → RowAt w gD (oD + j * 3) (D[j].cells p c) := fun {w S Ψ} hi cx {j} hj {p c} e => pin_rowAt (iP _ _ (hi _ _ cx.phi)) hj e
  have getD : ∀ j (hj : j < D.length), D.getD j d00 = D[j] := fun j hj => by rw [List.getD_eq_getElem?_getD, List.getElem?_eq_getElem hj]; rfl
  refine exI_mk (fun ap an ac iI R' Φ' k => ∃ (j : Nat) (ds : List Value) (a : List LineD), iI = j ∧ j ≤ D.length ∧ a = allK D j ∧ an = a.length ∧ R' = bufL ap a.length ac ds :: (SkO qt (newK 1 key) ++ (SkO q st ++ R)) ∧ Φ' = (fun M w => (QS M w ∧ SkF qt (newK 1 key) M w) ∧ Elems M w ds a) ∧ k = D.length - j)
    ⟨⟨bufL none 0 0 [] :: (SkO qt (newK 1 key) ++ (SkO q st ++ R)), (fun M w => (QS M w ∧ SkF qt (newK 1 key) M w) ∧ Elems M w [] ([] : List LineD)), _, inferInstance, fun w G cx => (cx.weak fun M w h => ⟨h, Elems.nil⟩).nobuf 37 7, 0, [], [], rfl, Nat.zero_le _, rfl, rfl, rfl, rfl, rfl⟩, ?_⟩
  rintro ap _ ac iI R2 Φ2 k2 _ ⟨j, ds, a, rfl, hj, ha, rfl, rfl, rfl, rfl⟩
  have hal : a.length = j := by rw [ha, allK_len]
  have hstA : Stable (fun M w => (QS M w ∧ SkF qt (newK 1 key) M w) ∧ Elems M w ds a) := inferInstance
  refine Br.intro (fun hlt => ?_) (fun hge => fun w G cx => ?_)
  · have hlt : j < D.length := by have := of_decide_eq_true hlt; omega
    obtain ⟨p1, qc1, e1, f1, f2, f3, f4⟩ := hcs j hlt
    have rdj := fun {w : World} {S : List Own} (cx : Ctx W w S (fun M w => (QS M w ∧ SkF qt (newK 1 key) M w) ∧ Elems M w ds a)) => rdD (fun M w h => h.1.1) cx hlt e1
    have slj : ∀ M w, QS M w → Sl M w p1 D[j].row := fun M w h => pin_row (iP M w h) hlt e1
    have hst : allK D (j + 1) = a ++ [⟨(j : Int) + 1, 7, D[j].time, D[j].row, D[j].n, 0, 0⟩] := by rw [allK_step, getD j hlt, ha]
    refine ⟨_, _, hstA, fun w G cx => cx, by unfold I64; omega, by omega, ptrK_intro gD oD (hpD (by omega)) ⟨by omega, ptrK_intro gD oD (hpD (by omega)) ⟨by omega, ptrK_intro gD oD (hpD (by omega)) ⟨D[j].time, fun w G cx => ⟨_, by rw [Int.toNat_natCast]; exact rdj cx 0 (by show 0 < 3; decide), rfl⟩, p1, D[j].row.length, qc1, fun w G cx => ⟨_, _, _, by rw [Int.toNat_natCast]; exact rdj cx 1 (by show 1 < 3; decide), rfl⟩, D[j].n, fun w G cx => ⟨_, by rw [Int.toNat_natCast]; exact rdj cx 2 (by show 2 < 3; decide), rfl⟩, fun kb => ⟨fun w G cx => Ctx.drop1 cx, fun w G cx => ?_⟩⟩⟩⟩⟩
    obtain ⟨p', c', w', hrun, cx'⟩ := pushK (x := ⟨(j : Int) + 1, 7, D[j].time, D[j].row, D[j].n, 0, 0⟩) (a := p1) (ac := qc1) (PS := fun M w => QS M w ∧ SkF qt (newK 1 key) M w) (fun M w h => rep_line f1 f2 ⟨by show I64 ((j : Int) + 1); unfold I64; omega, by show I64 (7 : Int); unfold I64; decide, f3, f4, by show I64 (0 : Int); unfold I64; decide, by show I64 (0 : Int); unfold I64; decide⟩ (slj M w h.1)) (by omega) cx
    rw [← hst] at hrun cx'
    have hst3 : Stable (fun M w => (QS M w ∧ SkF qt (newK 1 key) M w) ∧ Elems M w (ds ++ LineD.cells ⟨(j : Int) + 1, 7, D[j].time, D[j].row, D[j].n, 0, 0⟩ p1 qc1) (allK D (j + 1))) := inferInstance
    exact ⟨p', _, c', w', hrun, _, _, hst3, cx', by unfold I64; omega, _, _, D.length - (j + 1), hst3, fun w G cx => cx, ⟨j + 1, _, allK D (j + 1), by omega, hlt, rfl, rfl, rfl, rfl, rfl⟩, by omega⟩
  have hge : j = D.length := by have := of_decide_eq_false hge; omega
  rw [hge] at ha
  obtain ⟨cx2, hsl, _, s3, s4⟩ := Ctx.freeze (α := LineD) cx cx.phi.2
  have cx3 := (cx2.add hsl).weak (Ψ := fun M w => (QS M w ∧ SkF qt (newK 1 key) M w) ∧ Sl M w ap a) fun M w h => ⟨h.1.1, h.2⟩
  clear cx cx2 hsl
  have hdel := all_deliv hNorm hrt hfit
  rw [← ha] at hdel
  refine Deliver_use (Φ := fun M w => (QS M w ∧ SkF qt (newK 1 key) M w) ∧ Sl M w ap a) (hF := ⟨fun M w h => h.1.2⟩) (hL := ⟨fun M w h => h.2⟩) (R := SkO q st ++ R) (b := 7) (L := a) hqt (new_i 1 key) (once0 hok (by omega)).size (by omega) (by omega) cx3 fun q2 hsb2 hq2 st5 => ?_
  clear cx3
  rw [hdel] at hq2 st5 ⊢
  have hq2 : SkQ q2 (takeK (newK 1 key) 7 a) := hq2
  have hIt : SkI (takeK (newK 1 key) 7 a) := take_i (new_i 1 key) (by show (0 : Int) < 7; decide) (by omega) (by unfold I64; decide) (fun x hx => by
    rw [ha] at hx
    exact hrt _ (allK_mem (Nat.le_refl _) hx).2)
  have hSt : SkS (takeK (newK 1 key) 7 a) 400000 := (take_s (m := 390000) (once0 hok (by omega)).size 7 (by omega) (by omega)).up (by omega)
  obtain ⟨s2, hs2⟩ : ∃ s2, takeK (newK 1 key) 7 a = s2 := ⟨_, rfl⟩
  have ht1 : s2.lines = a := by rw [← hs2]; rfl
  have ht2 : s2.kind = 1 := by rw [← hs2]; rfl
  have ht3 : s2.key = key := by rw [← hs2]; rfl
  have hnt : netP s2.lines = D := by
    rw [ht1, ha]
    show consP ((allK D D.length).map LineD.d) = D
    rw [allK_d, consP_self hNorm]
  have hskt : skCells s2 = skCells st := by
    rw [hsk]
    unfold skCells
    rw [if_pos ht2, ht3, hnt]
  rw [hs2] at hq2 st5 hIt hSt ⊢
  obtain ⟨QT, hQT⟩ : ∃ QT : PW, QT = (fun M w => ((QS M w ∧ SkF qt (newK 1 key) M w) ∧ Sl M w ap a) ∧ SkF q2 s2 M w) := ⟨_, rfl⟩
  have stT : Stable QT := by rw [hQT]; exact st5
  have jQ : ∀ M w, QT M w → QS M w := fun M w h => by rw [hQT] at h; exact h.1.1.1
  have yF : Has QT (SkF q2 s2) := ⟨fun M w h => by rw [hQT] at h; exact h.2⟩
  have yS : Has QT (SkF q st) := ⟨fun M w h => xF.go M w (jQ M w h)⟩
  have yT : Has QT TabI := ⟨fun M w h => xT.go M w (jQ M w h)⟩
  rw [← hQT]
  refine Br.intro (fun h => absurd rfl (of_decide_eq_true h)) (fun _ => fun w G cx => ?_)
  have hC2 : GivesQSl (SkO q2 s2) QT Tryd.prog F.sink_Sink_Cells #[snk q2] (skCells s2) := CellsS_q (n := 400000) hq2 hIt hSt (Nat.le_refl _) (by rw [ht3]; omega) (by rw [hnt, ht3]; exact hfit) (by rw [hnt]; exact htx)
  rw [← hsb2]
  refine hC2.tot (R := SkO q st ++ R) cx fun p3 c3 m1 m2 m3 st6 => fun w G cx => ?_
  have hF2 : Has (fun M w => QT M w ∧ Sl M w p3 (skCells s2)) (SkF q st) := ⟨fun M w h => yS.go M w h.1⟩
  have hT2 : Has (fun M w => QT M w ∧ Sl M w p3 (skCells s2)) TabI := ⟨fun M w h => yT.go M w h.1⟩
  refine (CellsS_q hq hH.inv hH.size hn (by rw [hH.key]; omega) (by rw [hD, hH.key]; exact hfit) (by rw [hD]; exact htx)).tot (R := SkO q2 s2 ++ R) (Ctx.swapU cx) fun p4 c4 n1 n2 n3 st7 => fun w G cx => ?_
  have hcl : (skCells st).length ≤ 1000000 := by
    rw [hsk]
    have := cellsK_len key D
    omega
  have heq := Equal_in (Φ := fun M w => (QT M w ∧ Sl M w p3 (skCells s2)) ∧ Sl M w p4 (skCells st)) p3 c3 (skCells s2) p4 c4 (skCells st) (fun M w h => h.1.2) (fun M w h => h.2) (by rw [hskt]; omega)
  rw [decide_eq_true hskt] at heq
  refine heq.toB cx (Br.intro (fun h => by cases h) (fun _ => fun w G cx => ?_))
  clear heq
  have hF3 : Has (fun M w => (QT M w ∧ Sl M w p3 (skCells s2)) ∧ Sl M w p4 (skCells st)) (SkF q st) := ⟨fun M w h => yS.go M w h.1.1⟩
  have hT3 : Has (fun M w => (QT M w ∧ Sl M w p3 (skCells s2)) ∧ Sl M w p4 (skCells st)) TabI := ⟨fun M w h => yT.go M w h.1.1⟩
  refine ((CellsS_q (Φ := fun M w => (QT M w ∧ Sl M w p3 (skCells s2)) ∧ Sl M w p4 (skCells st)) hq hH.inv hH.size hn (by rw [hH.key]; omega) (by rw [hD, hH.key]; exact hfit) (by rw [hD]; exact htx)).go W w ((SkO q2 s2 ++ R) ++ G) (Ctx.inl cx)).mono fun e w' ⟨p5, c5, he, g3, g4, cx⟩ => ?_
  obtain ⟨C, hC⟩ : ∃ C, skCells st = C := ⟨_, rfl⟩
  have hCk : C = cellsK key D := by rw [← hC, hsk]
  rw [hC] at g3 he cx hcl
  obtain ⟨gC, oC, cC, hpC, cx⟩ := cx.pin cx.phi.2
  obtain ⟨QU, hQU⟩ : ∃ QU : PW, QU = (fun M w => (((QT M w ∧ Sl M w p3 (skCells s2)) ∧ Sl M w p4 C) ∧ Sl M w p5 C) ∧ Pin gC oC cC C M w) := ⟨_, rfl⟩
  have stU : Stable QU := by rw [hQU]; exact inferInstance
  have kQ : ∀ M w, QU M w → QS M w := fun M w h => by rw [hQU] at h; exact jQ M w h.1.1.1.1
  have kP : ∀ M w, QU M w → Pin gC oC cC C M w := fun M w h => by rw [hQU] at h; exact h.2
  rw [← hQU] at cx
  clear hQU
  have hcc := Ctx.cells cx kP
  refine ⟨p5, _, c5, he, SkO q st ++ (SkO q2 s2 ++ R), QU, stU, cx.outl, ?_⟩
  clear cx he
  obtain ⟨RR, hRR⟩ : ∃ RR, SkO q st ++ (SkO q2 s2 ++ R) = RR := ⟨_, rfl⟩
  have fin : ∀ {w : World} {G : List Own}, Ctx W w (RR ++ G) QU → Ctx W w R Φ := fun {w G} cx => by
    rw [← hRR] at cx
    exact (Ctx.sub cx (((List.sublist_append_right _ _).trans (List.sublist_append_right _ _)).trans (List.sublist_append_left _ _))).weak fun M w h => iQ M w (kQ M w h)
  rw [hRR]
  -- each row of the net has its cell
  refine exI_mk (fun iI R' Φ' k => ∃ j : Nat, iI = j ∧ j ≤ D.length ∧ R' = RR ∧ Φ' = QU ∧ k = D.length - j) ⟨⟨RR, QU, _, stU, fun w G cx => cx, 0, rfl, Nat.zero_le _, rfl, rfl, rfl⟩, ?_⟩
  rintro iI R3 Φ3 k3 _ ⟨j, rfl, hj, rfl, rfl, rfl⟩
  refine Br.intro (fun hlt => ?_) (fun hge => fun w G cx => ⟨rfl, fin cx⟩)
  have hlt : j < D.length := by have := of_decide_eq_true hlt; omega
  obtain ⟨p1, qc1, e1, f1, f2, f3, f4⟩ := hcs j hlt
  have rdj := fun {w : World} {S : List Own} (cx : Ctx W w S Φ3) => rdD kQ cx hlt e1
  have slj : ∀ M w, Φ3 M w → Sl M w p1 D[j].row := fun M w h => pin_row (iP M w (kQ M w h)) hlt e1
  have hdm : D[j] ∈ D := List.getElem_mem hlt
  have hfd := hfit _ hdm
  obtain ⟨d, hd⟩ : ∃ d, D[j] = d := ⟨_, rfl⟩
  rw [hd] at hdm hfd f1 f3 f4 slj
  have nextJ : I64 ((j : Int) + 1) ∧ ∃ R' Φ' k', Stable Φ' ∧ (∀ (w : World) (G : List Own), Ctx W w (R3 ++ G) Φ3 → Ctx W w (R' ++ G) Φ') ∧ (∃ j' : Nat, (j : Int) + 1 = j' ∧ j' ≤ D.length ∧ R' = R3 ∧ Φ' = Φ3 ∧ k' = D.length - j') ∧ k' < D.length - j := ⟨by unfold I64; omega, R3, Φ3, D.length - (j + 1), stU, fun w G cx => cx, ⟨j + 1, by omega, hlt, rfl, rfl, rfl⟩, by omega⟩
  refine ⟨by omega, ptrK_intro gD oD (hpD (by omega)) fun w G cx => ⟨d.n, by rw [Int.toNat_natCast, ← hd]; exact rdj cx 2 (by show 2 < 3; decide), ?_⟩⟩
  have htR := (slj _ _ cx.phi).there
  clear cx
  refine Br.intro (fun _ => nextJ) (fun hpos => ?_)
  have hpos : 0 < d.n := by have := of_decide_eq_false hpos; omega
  refine exI_mk (fun fI kI R' Φ' k => ∃ t : Nat, kI = t ∧ t ≤ C.length ∧ fI = (((C.take t).filter fun c => sameK key c.row d.row).length : Int) ∧ R' = R3 ∧ Φ' = Φ3 ∧ k = C.length - t) ⟨⟨R3, Φ3, _, stU, fun w G cx => cx, 0, rfl, Nat.zero_le _, rfl, rfl, rfl, rfl⟩, ?_⟩
  rintro fI kI R4 Φ4 k4 _ ⟨t, rfl, ht, rfl, rfl, rfl, rfl⟩
  have hfl : ((C.take t).filter fun c => sameK key c.row d.row).length ≤ C.length := Nat.le_trans (List.length_filter_le _ _) (by rw [List.length_take]; omega)
  refine Br.intro (fun hlt2 => ?_) (fun hge2 => ?_)
  rotate_left
  · have hge2 : t = C.length := by have := of_decide_eq_false hge2; omega
    have hcount := cells_count (key := key) (r := d.row) D
    rw [← hCk, if_pos (List.any_eq_true.2 ⟨d, hdm, by rw [decide_eq_false (by omega), sameK_eq.2 rfl]; rfl⟩)] at hcount
    rw [hge2, List.take_length, hcount]
    exact Br.intro (fun h => absurd rfl (of_decide_eq_true h)) (fun _ => nextJ)
  have hlt2 : t < C.length := by have := of_decide_eq_true hlt2; omega
  obtain ⟨p2, qc2, e2, m4, m5, m6, m7⟩ := hcc t hlt2
  have rdc : ∀ {w : World} {S : List Own}, Ctx W w S Φ4 → RowAt w gC (oC + t * 3) (C[t].cells p2 qc2) := fun {w S} cx => pin_rowAt (kP _ _ cx.phi) hlt2 e2
  have slc : ∀ M w, Φ4 M w → Sl M w p2 C[t].row := fun M w h => pin_row (kP M w h) hlt2 e2
  have hcm : C[t] ∈ cellsK key D := by rw [← hCk]; exact List.getElem_mem hlt2
  have htake : ((C.take (t + 1)).filter fun c => sameK key c.row d.row) = ((C.take t).filter fun c => sameK key c.row d.row) ++ (if sameK key C[t].row d.row = true then [C[t]] else []) := by
    rw [List.take_succ_eq_append_getElem hlt2, List.filter_append]
    congr 1
    by_cases h : sameK key C[t].row d.row = true
    · rw [if_pos h, List.filter_cons_of_pos (p := fun (c : DeltaD) => sameK key c.row d.row) h]; rfl
    · rw [if_neg h, List.filter_cons_of_neg (p := fun (c : DeltaD) => sameK key c.row d.row) h]; rfl
  obtain ⟨c, hcv⟩ : ∃ c, C[t] = c := ⟨_, rfl⟩
  rw [hcv] at m4 m6 m7 rdc slc hcm htake
  have hcD := cellsK_mem hcm
  have hfc := hfit _ hcD
  have hrc := hrow _ hcD
  refine ⟨by omega, ptrK_intro gC oC (hpC (by omega)) fun w G cx => ⟨c.time, p2, c.row.length, qc2, c.n, by rw [Int.toNat_natCast]; exact rdc cx, fun _ => ?_⟩⟩
  have htC := (slc _ _ cx.phi).there
  clear cx
  refine exI_mk (fun al nI R' Φ' k => ∃ u : Nat, nI = u ∧ u ≤ key.length ∧ al = decide (keyR (key.take u) c.row = keyR (key.take u) d.row) ∧ R' = R4 ∧ Φ' = Φ4 ∧ k = key.length - u) ⟨⟨R4, Φ4, _, stU, fun w G cx => cx, 0, rfl, Nat.zero_le _, rfl, rfl, rfl, rfl⟩, ?_⟩
  rintro al nI R5 Φ5 k5 _ ⟨u, rfl, hu, hal, rfl, rfl, rfl⟩
  refine Br.intro (fun hlt3 => fun w G cx => ?_) (fun hge3 => ?_)
  · have hlt3 : u < key.length := by have := of_decide_eq_true hlt3; omega
    obtain ⟨gk, ok, hkp⟩ := htk (by omega)
    obtain ⟨fa1, fa2⟩ := hfc _ (List.getElem_mem hlt3)
    obtain ⟨fb1, fb2⟩ := hfd _ (List.getElem_mem hlt3)
    obtain ⟨ga, oa, hap⟩ := htC (by omega)
    obtain ⟨gb, ob, hbp⟩ := htR (by omega)
    have hja : key[u].toNat < c.row.length := by omega
    have hjb : key[u].toNat < d.row.length := by omega
    have hst := keyR_snoc (ja := 0) hlt3 hja hjb
    rw [← hal, ← val_dec] at hst
    have rdk : w.cell? ⟨gk, ok + u, none⟩ = some (.int .i64 key[u]) := sl_int (by rw [← hkp]; exact xK.go _ _ (kQ _ _ cx.phi)) hlt3
    refine ⟨fun _ => by omega, ptrK_intro gk ok hkp ⟨key[u], fun _ => by rw [Int.toNat_natCast]; exact rdk, fun _ => by omega, ptrK_intro ga oa hap ⟨c.row[key[u].toNat].kind, c.row[key[u].toNat].num, c.row[key[u].toNat].text, fun _ => sl_val (by rw [← hap]; exact slc _ _ cx.phi) hja, fun _ => by omega, ptrK_intro gD oD (hpD (by omega)) ⟨p1, d.row.length, qc1, fun _ => by rw [Int.toNat_natCast]; have := rdj cx 1 (by show 1 < 3; decide); rw [← hd]; exact this, fun _ => by omega, ptrK_intro gk ok hkp ⟨key[u], fun _ => by rw [Int.toNat_natCast]; exact rdk, fun _ => by omega, ptrK_intro gb ob hbp ⟨d.row[key[u].toNat].kind, d.row[key[u].toNat].num, d.row[key[u].toNat].text, fun _ => sl_val (by rw [← hbp]; exact slj _ _ cx.phi) hjb, by kernel_rfl, by unfold I64; omega, R5, Φ5, key.length - (u + 1), stU, fun w G cx => cx, ⟨u + 1, by omega, hlt3, hst.symm, rfl, rfl, rfl⟩, by omega⟩⟩⟩⟩⟩⟩
  have hge3 : u = key.length := by have := of_decide_eq_false hge3; omega
  rw [hge3, List.take_length] at hal
  have hal : al = sameK key c.row d.row := hal
  rw [hal]
  have nextT : ∀ n : Nat, n = ((C.take (t + 1)).filter fun c => sameK key c.row d.row).length → I64 ((t : Int) + 1) ∧ ∃ R' Φ' k', Stable Φ' ∧ (∀ (w : World) (G : List Own), Ctx W w (R5 ++ G) Φ5 → Ctx W w (R' ++ G) Φ') ∧ (∃ t' : Nat, (t : Int) + 1 = t' ∧ t' ≤ C.length ∧ (n : Int) = (((C.take t').filter fun c => sameK key c.row d.row).length : Int) ∧ R' = R5 ∧ Φ' = Φ5 ∧ k' = C.length - t') ∧ k' < C.length - t := fun n hn =>
    ⟨by unfold I64; omega, R5, Φ5, C.length - (t + 1), stU, fun w G cx => cx, ⟨t + 1, by omega, hlt2, by rw [hn], rfl, rfl, rfl⟩, by omega⟩
  refine Br.intro (fun hns => ?_) (fun hys => ?_)
  · have hns : sameK key c.row d.row = false := by rw [Bool.not_eq_true'] at hns; exact hns
    rw [hns, if_neg (by simp), List.append_nil] at htake
    exact nextT _ (by rw [htake])
  have hys : sameK key c.row d.row = true := by rw [Bool.not_eq_false'] at hys; exact hys
  rw [hys, if_pos rfl] at htake
  have hnx := nextT (((C.take t).filter fun c => sameK key c.row d.row).length + 1) (by rw [htake, List.length_append]; rfl)
  rw [Int.natCast_succ] at hnx
  obtain ⟨hcn, hlast⟩ := cells_last hNorm hcm hdm hpos hys
  obtain ⟨hl1, hl2⟩ := not_less hlast
  have hfind := hNorm.find_mem c hcD
  have hfI := Find_in (Φ := Φ5) p0 c0 D c.time p2 qc2 c.row (fun M w h => xD M w (kQ M w h)) slc (by omega)
  rw [show findP D (c.time, c.row) = c.n from hfind] at hfI
  refine ⟨by unfold I64; omega, R5, Φ5, stU, fun w G cx => cx, by omega, ptrK_intro gD oD (hpD (by omega)) ⟨d.time, fun w G cx => ⟨_, by rw [Int.toNat_natCast, ← hd]; exact rdj cx 0 (by show 0 < 3; decide), rfl⟩, Br.intro (fun h => absurd (of_decide_eq_true h) hl1) (fun _ => ⟨by omega, ptrK_intro gD oD (hpD (by omega)) ⟨d.time, fun w G cx => ⟨_, by rw [Int.toNat_natCast, ← hd]; exact rdj cx 0 (by show 0 < 3; decide), rfl⟩, Br.intro (fun hte => ?_) (fun _ => ?_)⟩⟩)⟩⟩
  · have hte := of_decide_eq_true hte
    refine ⟨by omega, ptrK_intro gD oD (hpD (by omega)) ⟨p1, d.row.length, qc1, fun w G cx => ⟨_, _, _, by rw [Int.toNat_natCast, ← hd]; exact rdj cx 1 (by show 1 < 3; decide), rfl⟩, fun w G cx => (CompareRows_in (Φ := Φ5) p2 p1 qc2 qc1 c.row d.row slc slj (by omega)).toI cx ⟨R5, Φ5, stU, fun w G cx => cx, Br.intro (fun h => absurd (of_decide_eq_true h) (hl2 hte)) (fun _ => fun w G cx => hfI.toI cx ⟨fun w G cx => cx, Br.intro (fun h => absurd rfl (of_decide_eq_true h)) (fun _ => Br.intro (fun h => by have := of_decide_eq_true h; omega) (fun _ => hnx))⟩)⟩⟩⟩
  · exact ⟨R5, Φ5, stU, fun w G cx => cx, fun w G cx => hfI.toI cx ⟨fun w G cx => cx, Br.intro (fun h => absurd rfl (of_decide_eq_true h)) (fun _ => Br.intro (fun h => by have := of_decide_eq_true h; omega) (fun _ => hnx))⟩⟩
theorem CellsLaw_in [Stable Φ] [hT : Has Φ TabI] {l : List OpD} {kp : Option Addr} {kc : Nat} {key : List Int} [hK : Has Φ (fun M w => Sl M w kp key)] (hkb : key.length ≤ 17592186044416) [hΦ : Has Φ (fun M w => Sl M w p l)] (hlen : l.length ≤ maxLen) :
    GivesIn Φ Tryd.prog F.erratalaw43_SinkCells #[.slice kp key.length kc, .slice p l.length cap] (.bool true) :=
  .pinned hΦ.go fun b o cs hp => CellsLaw_pin (hT := ⟨fun M w h => hT.go M w h.1⟩) (hK := ⟨fun M w h => hK.go M w h.1⟩) hkb hp (fun M w h => h.2) hlen
end
end Go.Proofs.YtemhapmbcbbljaaDoor
end

section
namespace Go.Proofs.YtemhapmbcbbljaaDoor
open Go.Vc Go.RowKit
theorem tab_drop {P : Program} {w : World} : ∀ (n : Nat) {l : List (String × DataW Unit)}, laidMet P l w → laidMet P (l.drop n) w
  | 0, l, h => by rw [List.drop_zero]; exact h
  | n + 1, [], h => h
  | n + 1, x :: l, h => by rw [List.drop_succ_cons]; exact tab_drop n h.tail
theorem la_tab {W : World} {l : List (String × DataW Unit)} (n : Nat) (h : laidMetH Tryd.prog l W) (hp : (l.all fun x => x.2.handleName?.isNone) = true) (hd : ∃ r, l.drop n = ("internal/strconv.uint64pow10", Lib.tabData .u64 Lib.pow10Tab) :: r) : TabI [] W := by
  rw [MakeChecks.laidMetH_plain Tryd.prog l W hp] at h
  obtain ⟨r, hr⟩ := hd
  have h2 := tab_drop n h
  rw [hr] at h2
  exact Tab.start (Lib.tabIs_of_head (k := .u64) (zs := Lib.pow10Tab) (g := 1) (t := 115) (e := 108) (n := 20) (by kernel_rfl) (by kernel_rfl) (by kernel_rfl) (by kernel_rfl) (by kernel_rfl) (by kernel_rfl) h2)
end Go.Proofs.YtemhapmbcbbljaaDoor
end

section
namespace Go.Proofs.YtemhapmbcbbljaaDoor
open Go.ChangeShapes Go.WideShapes Go.ChangeAt Go.RowKit Go.Vc
theorem df_own : ownKnob Tryd.prog.godebug = none := by kernel_rfl
theorem df_laid : laidOutB Tryd.prog = true := by kernel_rfl
theorem trodAll_n {H : Type} {enc : TypeId × Value → H} {P : Program} {w : World} {base : Nat} {spare : Nat → Bool} {held : Bool} {t0 t1 : TypeId} {args : Array Value} {ds : List (DataW H)} {ps : List MemPlace} (h : DataW.TrodAll enc P w base spare held [t0, t1] args.toList ds ps) :
    ∃ v0 v1 d0 d1 p0 p1, args = #[v0, v1] ∧ ds = [d0, d1] ∧ ps = p0 ++ p1 ∧ DataW.Trod enc P w base spare held t0 v0 d0 p0 ∧ DataW.Trod enc P w base spare held t1 v1 d1 p1 := by
  obtain ⟨v0, vs0, d0, ds0, p0, q0, hargs, rfl, rfl, h0, h⟩ := trodAll_cons h
  obtain ⟨v1, vs1, d1, ds1, p1, q1, rfl, rfl, rfl, h1, h⟩ := trodAll_cons h
  obtain ⟨rfl, rfl, rfl⟩ := trodAll_nil h
  exact ⟨v0, v1, d0, d1, p0, p1, by cases args; simp_all, rfl, by simp, h0, h1⟩
theorem door_met (os : Os) (args : Array Value) : laidMetH Tryd.prog Rows.sinkCellsRow.laid ((World.doorLaid Tryd.prog 400 os).forCall (fun _ _ => 0) ⟨#[], args, []⟩).memory :=
  laidMetH_of_parts3 (fuel := 8) (laidMet_of_run' 8 (by kernel_rfl) (by kernel_rfl)) (by kernel_rfl) (by kernel_rfl)
set_option maxRecDepth 100000 in
theorem law_lifted (os : Os) (started : os.Started) (H : Type) (enc : TypeId × Value → H) :
    ReturnsInHanded {} Tryd.checked os 3 .any (fun w args => (Rows.sinkCellsSpec.pre enc Tryd.prog Tryd.f3 Rows.sinkCellsRow.domain false w args ∧ laidMetH Tryd.prog Rows.sinkCellsRow.laid w) ∧ sizedMet enc Tryd.prog Tryd.f3 (OpenSpec.ofChange Rows.sinkCellsSpec) false w args) (Rows.sinkCellsSpec.post enc Tryd.prog Tryd.f3 false true false false) := by
  refine lawTrueLaidW (C := Tryd.checked) (tb := 4) df_own started (by kernel_rfl) Tryd.func3 df_laid rfl ?_ rfl Tryd.underlying4 (by kernel_rfl)
    (ChangeSpec.witness_shaped (enc := enc) (C := Tryd.checked) (os := os) (X := fun w _ => laidMetH Tryd.prog Rows.sinkCellsRow.laid w) false (World.doorLaid Tryd.prog 400 os) #[.slice none 0 0, .slice none 0 0] 8 rfl (World.shaped_of_RefB (by kernel_rfl) (by kernel_rfl)) (by kernel_rfl) (by kernel_rfl) (by kernel_rfl) (door_met os _)) ?_
  · intro ds hd
    match ds, hd with
    | [_, _], _ => exact ⟨rfl, rfl, rfl⟩
  · intro W base args ds p hval0 hA0 _ hL hwt0
    have hval : ∀ (j : Nat) t v, Tryd.f3.params[j]? = some t → args[j]? = some v → Value.okWide Tryd.prog W .any base t v := hval0
    have hA : DataW.TrodAll enc Tryd.prog W 0 (fun _ => true) true Tryd.f3.params.toList args.toList ds p := hA0
    have hwt : (DataW.weightsEach Tryd.prog (Tryd.f3.params.toList ++ [] ++ []) ds).all (· ≤ reachBytes) = true := by rw [List.append_nil]; exact hwt0
    rw [Tryd.params3, List.append_nil, List.append_nil] at hwt
    rw [Tryd.params3] at hA hval
    obtain ⟨v0, v1, d0, d1, p0, p1, rfl, rfl, rfl, h0, h1⟩ := trodAll_n hA
    have hkb0 : ∀ {kp : Option Addr} {n c : Nat}, v0 = .slice kp n c → n ≤ 17592186044416 := fun {kp n c} e => by
      rw [e] at h0
      have hw0 : (d0.weights Tryd.prog 22).all (· ≤ reachBytes) = true := by
        have h : ((d0.weights Tryd.prog 22) ++ DataW.weightsEach Tryd.prog [23] [d1]).all (· ≤ reachBytes) = true := hwt
        rw [List.all_append, Bool.and_eq_true] at h
        exact h.1
      have h := sl_weight (P := Tryd.prog) Tryd.underlying22 h0 hw0
      have h2 : n * 8 ≤ 140737488351232 := h
      omega
    obtain ⟨keyp, keyc, key, rfl, keya, keyb, s0⟩ := open_sl (α := Int) 12 Tryd.underlying22 (hval 0 22 v0 rfl rfl) (by kernel_rfl) h0
    obtain ⟨lp, lc, l, rfl, la, lb, s1⟩ := open_sl (α := OpD) 12 Tryd.underlying23 (hval 1 23 v1 rfl rfl) (by kernel_rfl) h1
    have hkb : key.length ≤ 17592186044416 := hkb0 rfl
    have st0 : Stable (fun M w => Sl M w lp l) := inferInstance
    have st1 : Stable (fun M w => Sl M w keyp key ∧ Sl M w lp l) := instStableAnd (fun M w => Sl M w keyp key) (fun M w => Sl M w lp l)
    have st2 : Stable (fun M w => TabI M w ∧ Sl M w keyp key ∧ Sl M w lp l) := instStableAnd (fun M w => TabI M w) (fun M w => Sl M w keyp key ∧ Sl M w lp l)
    have fin : GivesIn (fun M w => TabI M w ∧ Sl M w keyp key ∧ Sl M w lp l) Tryd.prog 3 _ (.bool true) := CellsLaw_in (Φ := (fun M w => TabI M w ∧ Sl M w keyp key ∧ Sl M w lp l)) (p := lp) (cap := lc) (l := l) (kp := keyp) (kc := keyc) (key := key) (hT := ⟨fun _ _ h => h.1⟩) (hK := ⟨fun _ _ h => h.2.1⟩) hkb (hΦ := ⟨fun _ _ h => h.2.2⟩) (Nat.le_trans la lb)
    exact fin.law ⟨la_tab 2 hL (by kernel_rfl) ⟨_, rfl⟩, s0, s1⟩
theorem row_holds : Rows.SinkCellsSaid :=
  OpenClaim.holds_of_wide 3 Tryd.f3 rfl rfl rfl rfl rfl rfl rfl ⟨rfl, rfl, rfl, rfl, rfl⟩ rfl rfl rfl rfl rfl (by kernel_rfl) Tryd.func3 (by kernel_rfl)
    (of_decide_eq_true (by kernel_rfl)) (by unfold Func.isWrapper; first | (rw [if_pos (by decide +kernel)]; kernel_rfl) | (rw [if_neg (by decide +kernel)]; exact ⟨rfl, rfl⟩))
    (fun os started H enc _ => law_lifted os started H enc)
theorem cells_holds : Rows.SinkCellsCardSaid :=
  Claim7.holds_tied_plain_at .later [] [.data, .data, .data] true Rows.sinkCellsCard.stood.harness false
    row_holds (fun _ h => by cases h) (by kernel_rfl) (fun _ h => by cases h) sinkCells_row_tie rfl ⟨rfl, rfl⟩ (by kernel_rfl) rfl
    (fun f fn hf hfn => by
      obtain rfl : f = 3 := Option.some.inj ((show Tryd.prog.funcNamed Rows.sinkCellsRow.func = some 3 by kernel_rfl).symm.trans hf) |>.symm
      obtain rfl : fn = Tryd.f3 := (Option.some.inj (Tryd.func3.symm.trans hfn)).symm
      exact ⟨by kernel_rfl, fun j t ht => by
        rw [Tryd.params3] at ht
        have hm := Array.mem_of_getElem? ht
        have hall : ((Tryd.f3.params.toList).all fun u => !Tryd.prog.wantsStandIn u) = true := by kernel_rfl
        rw [Tryd.params3] at hall
        exact (show Tryd.prog.wantsStandIn t = false by simpa using List.all_eq_true.1 hall t (by simpa using hm))⟩)
    (by kernel_rfl)
end Go.Proofs.YtemhapmbcbbljaaDoor
end

