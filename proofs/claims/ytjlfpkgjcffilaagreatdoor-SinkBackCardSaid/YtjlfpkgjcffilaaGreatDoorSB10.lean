/-
  For every input erratalaw43.SinkBack returns true, does not panic, comes to an end, and leaves what came in as it was; the variables that its row lists are as the program's text lays them.
  Conditions: none beyond the given statement's own (SinkBackCardSaid).
-/
import Derived.Test.YtjlfpkgjcffilaaGreatDoorSB9
import Derived.Test.YtjlfpkgjcffilaaGreatDoorSB8
import Derived.Test.YtjlfpkgjcffilaaGreatDoorCards
import Derived.MakeChecks
import Derived.Stop.LaidErr
import Derived.Lib.LaidTab
import Derived.Test.YtjlfpkgjcffilaaGreatDoorTie
import Derived.SevenTiedAt
import Derived.LaidMore
import Derived.ChangeMaps5
import Derived.Test.YtjlfpkgjcffilaaGreatDoorRows

/-
  The reference's sink: what is owned of it, its short functions, Clone, look and take; walked.
-/
section
set_option linter.unusedVariables false
set_option linter.unusedSimpArgs false
namespace Go.Proofs.YtjlfpkgjcffilaaGreatDoor
open Go.Vc


abbrev RkO (q : KP) (st : SkD) : List Own := [.blk q.sb (SkB q st) 54, bufZ q.bp q.bc st.bats]
abbrev RkF (q : KP) (st : SkD) : PW := fun M w => Sl M w q.lp st.lines ∧ (Sl M w q.kp st.key ∧ Sl M w q.ap st.aside)
structure RkQ (q : KP) (st : SkD) : Prop where
  bpt : 0 < st.bats.length → ∃ g, q.bp = some ⟨g, 0, none⟩
  lcap : st.lines.length ≤ q.lc ∧ q.lc ≤ maxLen
  bcap : st.bats.length ≤ q.bc ∧ q.bc ≤ maxLen
  kcap : st.key.length ≤ q.kc ∧ q.kc ≤ maxLen
  acap : st.aside.length ≤ q.ac ∧ q.ac ≤ maxLen
theorem rkq_of {q : KP} {st : SkD} {W w : World} {S : List Own} {Φ : PW} (c : Ctx W w (RkO q st ++ S) Φ) (hl : st.lines.length ≤ q.lc ∧ q.lc ≤ maxLen) (hk : st.key.length ≤ q.kc ∧ q.kc ≤ maxLen) (ha : st.aside.length ≤ q.ac ∧ q.ac ≤ maxLen) : RkQ q st where
  bpt := fun h => by
    obtain ⟨g, hg, _⟩ := c.bufCell 1 rfl (by rw [(c.bufLen 1 rfl).1]; omega)
    exact ⟨g, hg⟩
  lcap := hl
  bcap := (c.bufLen 1 rfl).2
  kcap := hk
  acap := ha

theorem newOk_iff (kind : Int) (key : List Int) : newOk kind key = (!(decide (kind < 0) || decide (3 ≤ kind) || decide ((0 : Int) < key.length) && decide (kind ≠ 1)) && !key.any fun k => decide (k < 0)) := by
  have hm : (0 : Int) < key.length → (decide (minZ key < 0) = key.any fun k => decide (k < 0)) := fun h => by
    have hne : key ≠ [] := fun e => by rw [e] at h; exact absurd h (by decide)
    cases ha : key.any fun k => decide (k < 0) with
    | true =>
      refine decide_eq_true ?_
      obtain ⟨x, hx, hx2⟩ := List.any_eq_true.1 ha
      have hx2 := of_decide_eq_true hx2
      by_cases h0 : 0 ≤ minZ key
      · have := (minZ_le hne 0).1 h0 x hx; omega
      · omega
    | false =>
      refine decide_eq_false ?_
      have : 0 ≤ minZ key := (minZ_le hne 0).2 fun x hx => by
        have := List.any_eq_false.1 ha x hx
        have := of_decide_eq_false (by simpa using this : decide (x < 0) = false)
        omega
      omega
  unfold newOk
  by_cases h0 : (0 : Int) < key.length
  · rw [hm h0, decide_eq_true h0]
    cases decide (kind < 0) <;> cases decide (3 ≤ kind) <;> simp
  · have hnil : key = [] := List.eq_nil_of_length_eq_zero (by omega)
    rw [hnil]
    cases decide (kind < 0) <;> cases decide (3 ≤ kind) <;> simp

section
variable {Φ : PW} {q : KP} {st : SkD} {W w : World} {R S G : List Own} {p : Option Addr} {cap : Nat} {L : List LineD} {cs : List Value}

theorem rk_cell (cx : Ctx W w ((RkO q st ++ R) ++ G) Φ) {i : Nat} {v : Value} (h : (SkB q st)[i]? = some v) : w.cell? ⟨q.sb, i, none⟩ = some v := cx.get 0 rfl h
theorem srcz_rk (hq : RkQ q st) : SrcZ (RkO q st) Φ q.bp st.bats where
  ptr := fun h => by obtain ⟨g, hg⟩ := hq.bpt h; exact ⟨g, 0, hg⟩
  rd := fun {W w G b o} e c i h => by
    obtain ⟨g, hg⟩ := hq.bpt (by omega)
    rw [hg] at e
    cases e
    rw [Nat.zero_add]
    exact c.bufGet 1 rfl hg (by rw [List.getElem?_map, List.getElem?_eq_getElem h]; rfl)
theorem rk_bat (hq : RkQ q st) {g : Nat} (hg : q.bp = some ⟨g, 0, none⟩) (cx : Ctx W w ((RkO q st ++ R) ++ G) Φ) {i : Nat} (h : i < st.bats.length) : w.cell? ⟨g, i, none⟩ = some (.int .i64 st.bats[i]) := by
  have := (srcz_rk (Φ := Φ) hq).rd hg (G := R ++ G) (cx.re (List.append_assoc _ _ _)) i h
  rw [Nat.zero_add] at this
  exact this

theorem Last43_q [Stable Φ] (hq : RkQ q st) : GivesQ (RkO q st) Φ Tryz.prog F.errataref43_Sink_Last #[snk q] (.int .i64 (lastK st)) := by
  refine gives_q (Berrataref43_Sink_Last_run q.sb 0) fun W R => fun w G cx => ⟨_, _, _, rk_cell (i := 2) cx rfl, Br.intro (fun h => fun w G cx => ⟨?_, cx.left⟩) (fun h => fun w G cx => ⟨_, _, _, rk_cell (i := 2) cx rfl, _, _, _, rk_cell (i := 2) cx rfl, ?_⟩)⟩
  · have h := of_decide_eq_true h
    have : st.bats = [] := List.eq_nil_of_length_eq_zero (by omega)
    unfold lastK
    rw [this]; rfl
  · have h := of_decide_eq_false h
    have h0 : st.bats.length ≠ 0 := by omega
    have hb := hq.bcap
    unfold maxLen at hb
    obtain ⟨g, hg⟩ := hq.bpt (by omega)
    refine ⟨by unfold I64; omega, by omega, ptrK_intro g 0 hg ⟨lastK st, ?_, fun w G cx => ⟨rfl, cx.left⟩⟩⟩
    have := rk_bat hq hg cx (i := st.bats.length - 1) (by omega)
    rw [lastK_at h0, show ((st.bats.length : Int) - 1).toNat = st.bats.length - 1 by omega, Nat.zero_add]
    exact this
theorem Has43_q [Stable Φ] (hq : RkQ q st) {b : Int} : GivesQ (RkO q st) Φ Tryz.prog F.errataref43_Sink_Has #[snk q, .int .i64 b] (.bool (hasK st b)) := by
  have hb := hq.bcap
  unfold maxLen at hb
  refine gives_q (Berrataref43_Sink_Has_run q.sb 0 b) fun W R => ?_
  refine exI_mk (fun iI R' Φ' k => ∃ i : Nat, iI = i ∧ i ≤ st.bats.length ∧ (∀ x ∈ st.bats.take i, x ≠ b) ∧ R' = RkO q st ++ R ∧ Φ' = Φ ∧ k = st.bats.length - i) ⟨⟨_, _, _, inferInstance, fun w G cx => cx, 0, rfl, Nat.zero_le _, by simp, rfl, rfl, rfl⟩, ?_⟩
  rintro iI R1 Φ1 k _ ⟨i, rfl, hi, hne, rfl, rfl, rfl⟩
  refine fun w G cx => ⟨_, _, _, rk_cell (i := 2) cx rfl, ?_⟩
  clear cx
  refine Br.intro (fun hlt => fun w G cx => ⟨_, _, _, rk_cell (i := 2) cx rfl, ?_⟩) (fun hge => fun w G cx => ⟨?_, cx.left⟩)
  · clear cx
    have hlt : i < st.bats.length := by have := of_decide_eq_true hlt; omega
    obtain ⟨g, hg⟩ := hq.bpt (by omega)
    refine ⟨by omega, ptrK_intro g 0 hg fun w G cx => ⟨st.bats[i], by rw [Nat.zero_add, Int.toNat_natCast]; exact rk_bat hq hg cx hlt, Br.intro (fun h => fun w G cx => ⟨?_, cx.left⟩) (fun h => ⟨by unfold I64; omega, _, Φ1, st.bats.length - (i + 1), inferInstance, fun w G cx => cx, ⟨i + 1, by omega, hlt, ?_, rfl, rfl, rfl⟩, by omega⟩)⟩⟩
    · unfold hasK
      rw [decide_eq_true (by rw [← of_decide_eq_true h]; exact List.getElem_mem _)]
    · intro x hx
      rw [List.take_succ_eq_append_getElem hlt] at hx
      rcases List.mem_append.1 hx with hx | hx
      · exact hne x hx
      · rw [List.mem_singleton.1 hx]; exact of_decide_eq_false h
  · have hge : i = st.bats.length := by have := of_decide_eq_false hge; omega
    rw [hge, List.take_length] at hne
    unfold hasK
    rw [decide_eq_false fun h => hne b h rfl]

/-! ### New -/
theorem New43_to [Stable Φ] {kind : Int} {key : List Int} [hΦ : Has Φ (fun M w => Sl M w p key)] (hlen : key.length ≤ 10000000) (c : Ctx W w (R ++ G) Φ) {K : Option Addr → List Own → PW → Prop}
    (h0 : newOk kind key = false → K none R Φ)
    (h1 : ∀ q : KP, newOk kind key = true → RkQ q (newK kind key) → Stable (fun M w => Φ M w ∧ RkF q (newK kind key) M w) → K (some ⟨q.sb, 0, none⟩) (RkO q (newK kind key) ++ R) (fun M w => Φ M w ∧ RkF q (newK kind key) M w)) :
    Calls Tryz.prog F.errataref43_New #[.int .i64 kind, .slice p key.length cap] w fun e w' => ∃ p, e = .returned (.pointer p) ∧ ∃ R' Φ', Stable Φ' ∧ Ctx W w' (R' ++ G) Φ' ∧ K p R' Φ' := by
  have hth := (hΦ.go _ _ c.phi).there
  refine (Berrataref43_New_run kind p key.length cap (R := R ++ G) (J := fun v w' => ∃ p, v = .pointer p ∧ ∃ R' Φ', Stable Φ' ∧ Ctx W w' (R' ++ G) Φ' ∧ K p R' Φ') c ?_).mono fun e w' ⟨v, he, p, hv, rest⟩ => ⟨p, by rw [he, hv], rest⟩
  clear c
  have bad : newOk kind key = false → ∀ {w : World} {G2 : List Own}, Ctx W w ((R ++ G) ++ G2) Φ → ∃ p, Value.pointer none = .pointer p ∧ ∃ R' Φ', Stable Φ' ∧ Ctx W w (R' ++ G) Φ' ∧ K p R' Φ' := fun h {w G2} cx => ⟨none, rfl, R, Φ, inferInstance, cx.left, h0 h⟩
  have hok := newOk_iff kind key
  refine exI_mk (fun iI R' Φ' k => ∃ i : Nat, iI = i ∧ i ≤ key.length ∧ (∀ x ∈ key.take i, ¬ x < 0) ∧ R' = R ++ G ∧ Φ' = Φ ∧ k = key.length - i) ⟨⟨_, _, _, inferInstance, fun w G cx => cx, 0, rfl, Nat.zero_le _, by simp, rfl, rfl, rfl⟩, ?_⟩
  rintro iI R1 Φ1 k _ ⟨i, rfl, hi, hnn, rfl, rfl, rfl⟩
  refine Br.intro (fun hlt => ?_) (fun hge => fun w G2 cx => ?_)
  · have hlt : i < key.length := by have := of_decide_eq_true hlt; omega
    obtain ⟨g, o, hp⟩ := hth (by omega)
    refine ⟨by omega, ptrK_intro g o hp fun w G2 cx => ⟨key[i], ?_, Br.intro (fun h => fun w G2 cx => bad ?_ cx) (fun h => ⟨by unfold I64; omega, _, Φ1, key.length - (i + 1), inferInstance, fun w G cx => cx, ⟨i + 1, by omega, hlt, ?_, rfl, rfl, rfl⟩, by omega⟩)⟩⟩
    · have := hΦ.go _ _ cx.phi
      rw [hp] at this
      rw [Int.toNat_natCast]
      exact sl_int this hlt
    · rw [hok, List.any_eq_true.2 ⟨key[i], List.getElem_mem _, h⟩, Bool.not_true, Bool.and_false]
    · intro x hx
      rw [List.take_succ_eq_append_getElem hlt] at hx
      rcases List.mem_append.1 hx with hx | hx
      · exact hnn x hx
      · rw [List.mem_singleton.1 hx]; exact of_decide_eq_false h
  · have hge : i = key.length := by have := of_decide_eq_false hge; omega
    rw [hge, List.take_length] at hnn
    have hany : (key.any fun k => decide (k < 0)) = false := List.any_eq_false.2 fun x hx => by simpa using hnn x hx
    rw [hany, Bool.not_false, Bool.and_true] at hok
    clear cx
    refine Br.intro (fun h => fun w G2 cx => bad (by rw [hok, h]; rfl) cx) (fun h => fun kb w G2 cx => ?_)
    rw [h] at hok
    have hok : newOk kind key = true := hok
    obtain ⟨p1, c1, w1, cs1, hrun, cx1⟩ := Ctx.cloned (P := Tryz.prog) (ts := 50) (ty := 50) (kb := #[false, false]) (bytes := 8) (c2 := cap) (l := key) (q := p) cx (by kernel_rfl) int_one hΦ.go (by omega) (by omega)
    obtain ⟨cx2, hs, _, g1, g2⟩ := Ctx.freeze (α := Int) cx1 cx1.phi.2
    refine ⟨p1, _, c1, w1, hrun, R ++ G, (fun M w => Φ1 M w ∧ Sl M w p1 key), inferInstance, (cx2.add (Ψ := fun M w => Sl M w p1 key) hs).weak fun M w h => ⟨h.1.1, h.2⟩, fun k w G3 cx => ?_⟩
    clear cx1 cx2 hs
    have cx := Ctx.left (S := .blk k _ 54 :: (R ++ G)) (F := G3) cx
    have c2 := cx.nobuf 3 1
    obtain ⟨q, hqe⟩ : ∃ q : KP, q = ⟨k, p1, c1, none, 0, none, 0, [], none, 0⟩ := ⟨_, rfl⟩
    have c3 : Ctx W w ((RkO q (newK kind key) ++ R) ++ G) (fun M w => Φ1 M w ∧ RkF q (newK kind key) M w) := by
      rw [hqe]
      refine Ctx.weak (Φ := fun M w => Φ1 M w ∧ Sl M w p1 key) (c2.perm ?_) fun M w h => ⟨h.1, nilL, h.2, nilL⟩
      exact List.Perm.swap _ _ _
    have hq : RkQ q (newK kind key) := rkq_of (S := R ++ G) (c3.re (by simp)) (by rw [hqe]; exact ⟨Nat.le_refl _, Nat.zero_le _⟩) (by rw [hqe]; exact ⟨g1, g2⟩) (by rw [hqe]; exact ⟨Nat.le_refl _, Nat.zero_le _⟩)
    have := h1 q hok hq inferInstance
    refine ⟨some ⟨k, 0, none⟩, rfl, RkO q (newK kind key) ++ R, _, inferInstance, c3, ?_⟩
    rw [show k = q.sb by rw [hqe]]
    exact this

/-! ### Clone -/
set_option maxHeartbeats 1000000 in
theorem Clone43_src [Stable Φ] (src : Src [] Φ p L cs) (hc : Rows7 cs L) (hlen : L.length ≤ 1000000) (hrow : ∀ x ∈ L, x.row.length ≤ 1000000) : GivesSl Φ Tryz.prog F.errataref43_Clone #[.slice p L.length cap] L id := by
  refine gives_sl (Berrataref43_Clone_run p L.length cap) fun W R => ?_
  refine exI_mk (fun p6 n c iI R' Φ' k => ∃ (i : Nat) (ds : List Value), iI = i ∧ i ≤ L.length ∧ n = (L.take i).length ∧ R' = bufL p6 (L.take i).length c ds :: R ∧ Φ' = (fun M w => Φ M w ∧ Elems M w ds (L.take i)) ∧ k = L.length - i) ⟨⟨bufL none 0 0 [] :: R, fun M w => Φ M w ∧ Elems M w [] ([] : List LineD), _, inferInstance, fun w G cx => (cx.nobuf 46 7).weak fun M w h => ⟨h, Elems.nil⟩, 0, [], rfl, Nat.zero_le _, rfl, rfl, rfl, rfl⟩, ?_⟩
  rintro p6 n c iI R1 Φ1 k _ ⟨i, ds, rfl, hi, rfl, rfl, rfl, rfl⟩
  have stE : ∀ (ds : List Value) (o : List LineD), Stable (fun M w => Φ M w ∧ Elems M w ds o) := fun ds o => inferInstance
  refine Br.intro (fun hlt => ?_) (fun hge => fun w G cx => ?_)
  · have hlt : i < L.length := by have := of_decide_eq_true hlt; omega
    obtain ⟨b, o, hp⟩ := src.ptr (by omega)
    obtain ⟨r, rc, he, h1, h2, h3⟩ := hc i hlt
    have hx : L[i].row.length ≤ 1000000 := hrow _ (List.getElem_mem hlt)
    obtain ⟨x, hxe⟩ : ∃ x, L[i] = x := ⟨_, rfl⟩
    have hsl : ∀ M w, Φ M w → Sl M w r x.row := fun M w h => by rw [← hxe]; exact src_sl src hlt he h
    have hrd : ∀ {w : World} {G : List Own}, Ctx W w ((bufL p6 (L.take i).length c ds :: R) ++ G) (fun M w => Φ M w ∧ Elems M w ds (L.take i)) → RowAt w b (o + ((i : Nat) : Int).toNat * 7) (x.cells r rc) := fun {w G} cx => by
      rw [Int.toNat_natCast, ← hxe]
      exact src_at (S := []) (G := (bufL p6 (L.take i).length c ds :: R) ++ G) src hp cx.fst he
    have hst : L.take (i + 1) = L.take i ++ [x] := by rw [List.take_succ_eq_append_getElem hlt, hxe]
    rw [hxe] at hx h3
    obtain ⟨o1, ho1⟩ : ∃ o1, L.take i = o1 := ⟨_, rfl⟩
    have ho1l : o1.length ≤ 1000000 := by rw [← ho1, List.length_take]; omega
    rw [ho1] at hst
    simp only [ho1] at hrd ⊢
    refine ⟨by omega, ptrK_intro b o hp fun w G cx => ⟨x.no, x.batch, x.time, r, x.row.length, rc, x.n, x.cause, x.why, hrd cx, fun _ kb w G cx => ?_⟩⟩
    obtain ⟨p2, c2, w2, cs2, hrun, cx1⟩ := Ctx.cloned (P := Tryz.prog) (ts := 44) (ty := 44) (kb := #[false, false]) (bytes := 32) (c2 := rc) (l := x.row) (q := r) cx (by kernel_rfl) val_one (fun M w h => hsl M w h.1) (by omega) (by omega)
    obtain ⟨cx2, hs, _, g1, g2⟩ := Ctx.freeze (α := ValD) cx1 cx1.phi.2
    have stP : Stable (fun M w => Φ M w ∧ Sl M w p2 x.row) := inferInstance
    have stQ : Stable (fun M w => (Φ M w ∧ Sl M w p2 x.row) ∧ Elems M w ds o1) := instStableAnd (fun M w => Φ M w ∧ Sl M w p2 x.row) (fun M w => Elems M w ds o1)
    refine ⟨p2, _, c2, w2, hrun, bufL p6 o1.length c ds :: R, (fun M w => (Φ M w ∧ Sl M w p2 x.row) ∧ Elems M w ds o1), stQ, (cx2.add (Ψ := fun M w => Sl M w p2 x.row) hs).weak fun M w h => ⟨⟨h.1.1.1, h.2⟩, h.1.1.2⟩, fun k2 w G cx => ?_⟩
    clear cx1 cx2 hs
    obtain ⟨p', c', w', hrun', cx'⟩ := pushK (PS := fun M w => Φ M w ∧ Sl M w p2 x.row) (x := x) (a := p2) (ac := c2) (fun M w h => rep_line g1 g2 h3 h.2) (by omega) cx
    refine ⟨p', _, c', w', hrun', _, _, instStableAnd Φ (fun M w => Elems M w (ds ++ x.cells p2 c2) (o1 ++ [x])), cx'.weak fun M w h => ⟨h.1.1, h.2⟩, by unfold I64; omega, _, _, L.length - (i + 1), stE _ _, fun w G cx => cx, ⟨i + 1, _, by omega, hlt, by rw [hst], by rw [hst], by rw [hst], rfl⟩, by omega⟩
  · have hge : i = L.length := by have := of_decide_eq_false hge; omega
    subst hge
    rw [List.take_length] at cx ⊢
    obtain ⟨cx2, hs, _, g1, g2⟩ := Ctx.freeze (α := LineD) cx cx.phi.2
    exact ⟨p6, c, rfl, g1, g2, ((cx2.add (Ψ := fun M w => Sl M w p6 L) hs).left).weak fun M w h => ⟨h.1.1, h.2⟩⟩
theorem Clone43_sl [Stable Φ] [hΦ : Has Φ (fun M w => Sl M w p L)] (hlen : L.length ≤ 1000000) (hrow : ∀ x ∈ L, x.row.length ≤ 1000000) : GivesSl Φ Tryz.prog F.errataref43_Clone #[.slice p L.length cap] L id :=
  .there (fun M w h => (hΦ.go M w h).there) fun hth => ⟨fun W w S c => by
    obtain ⟨cs, c1⟩ := srcOf c (hΦ.go _ _ c.phi)
    refine ((Clone43_src (Φ := fun M w => Φ M w ∧ SrcF p L cs M w) (src_fact (Φ := fun M w => Φ M w ∧ SrcF p L cs M w) hth (fun M w h => h.2)) (rows7 c1.phi.2.2) hlen hrow).go W w S c1).mono fun e w' ⟨p', c', he, h1, h2, c2⟩ => ⟨p', c', he, h1, h2, c2.weak fun M w h => ⟨h.1.1, h.2⟩⟩⟩
end
end Go.Proofs.YtjlfpkgjcffilaaGreatDoor
end

/-
  The reference's sink: look and take, walked.
-/
section
set_option linter.unusedVariables false
set_option linter.unusedSimpArgs false
namespace Go.Proofs.YtjlfpkgjcffilaaGreatDoor
open Go.Vc


section
variable {Φ : PW} {q : KP} {st : SkD} {W w : World} {R S G : List Own} {p : Option Addr} {cap : Nat} {L : List LineD} {cs : List Value}

set_option maxHeartbeats 2000000 in
theorem Look43_src [Stable Φ] {b : Int} [hF : Has Φ (RkF q st)] (hq : RkQ q st) (hll : st.lines.length ≤ 400000) (hkl : st.key.length ≤ 10000000) (src : Src [] Φ p L cs) (hc : Rows7 cs L) (hlen : L.length ≤ 1000000) :
    GivesQ (RkO q st) Φ Tryz.prog F.errataref43_Sink_look #[snk q, .int .i64 b, .slice p L.length cap] (.int .i64 (lookK st b L)) := by
  refine gives_q (Berrataref43_Sink_look_run q.sb 0 b p L.length cap) fun W R => ?_
  unfold lookK
  refine Br.intro (fun h => fun w G cx => ⟨by rw [if_pos (of_decide_eq_true h)], cx.left⟩) (fun h => ?_)
  rw [if_neg (of_decide_eq_false h)]
  refine fun w G cx => (Last43_q hq).toI cx ?_
  clear cx
  refine Br.intro (fun h => fun w G cx => ⟨by rw [if_pos (of_decide_eq_true h)], cx.left⟩) (fun h => ?_)
  rw [if_neg (of_decide_eq_false h)]
  have hkey : ∀ M w, Φ M w → Sl M w q.kp st.key := fun M w h => (hF.go M w h).2.1
  refine exI_mk (fun iI R' Φ' k => ∃ i : Nat, iI = i ∧ i ≤ L.length ∧ R' = RkO q st ++ R ∧ Φ' = Φ ∧ k = L.length - i ∧ L.any (badK st.key b) = (L.drop i).any (badK st.key b)) ⟨⟨_, _, _, inferInstance, fun w G cx => cx, 0, rfl, Nat.zero_le _, rfl, rfl, rfl, rfl⟩, ?_⟩
  rintro iI R1 Φ1 k _ ⟨i, rfl, hi, rfl, rfl, rfl, hor⟩
  refine Br.intro (fun hlt => ?_) (fun hge => ?_)
  · have hlt : i < L.length := by have := of_decide_eq_true hlt; omega
    obtain ⟨bb, o, hp⟩ := src.ptr (by omega)
    obtain ⟨r, rc, he, h1, h2, h3⟩ := hc i hlt
    have hsl : ∀ M w, Φ1 M w → Sl M w r L[i].row := fun M w h => src_sl src hlt he h
    rw [List.drop_eq_getElem_cons hlt, List.any_cons] at hor
    have bad : badK st.key b L[i] = true → L.any (badK st.key b) = true := fun h => by rw [hor, h]; rfl
    have stop : L.any (badK st.key b) = true → ∀ {w : World} {G : List Own}, Ctx W w ((RkO q st ++ R) ++ G) Φ1 → (Value.int .i64 1) = .int .i64 (if L.any (badK st.key b) = true then 1 else if numK ((st.lines.length : Int) + 1) L = false then 25 else 0) ∧ Ctx W w (RkO q st ++ R) Φ1 := fun h {w G} cx => ⟨by rw [if_pos h], cx.left⟩
    have hrd : ∀ {w : World} {G : List Own}, Ctx W w ((RkO q st ++ R) ++ G) Φ1 → RowAt w bb (o + ((i : Nat) : Int).toNat * 7) (L[i].cells r rc) := fun {w G} cx => by
      rw [Int.toNat_natCast]
      exact src_at (S := []) (G := (RkO q st ++ R) ++ G) src hp cx he
    obtain ⟨x, hx⟩ : ∃ x, L[i] = x := ⟨_, rfl⟩
    rw [hx] at hsl hor bad hrd h1 h3
    unfold maxLen at h2
    refine ⟨by omega, ptrK_intro bb o hp fun w G cx => ⟨x.no, x.batch, x.time, r, x.row.length, rc, x.n, x.cause, x.why, hrd cx, fun _ => ?_⟩⟩
    clear cx
    refine Br.intro (fun g1 => fun w G cx => stop (bad (by unfold badK; rw [g1]; rfl)) cx) (fun g1 => Br.intro (fun g2 => fun w G cx => stop (bad (by unfold badK; rw [g2, Bool.or_true]; rfl)) cx) (fun g2 => fun w G cx => (RightRow3_in r rc x.row hsl (by omega)).toB cx ?_))
    clear cx
    refine Br.intro (fun g3 => fun w G cx => stop (bad (by unfold badK; rw [g3, Bool.or_true]; rfl)) cx) (fun g3 => ?_)
    refine exI_mk (fun jI R' Φ' k => ∃ j : Nat, jI = j ∧ j ≤ st.key.length ∧ R' = RkO q st ++ R ∧ Φ' = Φ1 ∧ k = st.key.length - j ∧ shortK st.key x.row = (st.key.drop j).any fun k => decide ((x.row.length : Int) ≤ k)) ⟨⟨_, _, _, inferInstance, fun w G cx => cx, 0, rfl, Nat.zero_le _, rfl, rfl, rfl, rfl⟩, ?_⟩
    rintro jI R2 Φ2 k2 _ ⟨j, rfl, hj, rfl, rfl, rfl, hsh⟩
    refine fun w G cx => ⟨_, _, _, rk_cell (i := 1) cx rfl, ?_⟩
    have hth := (hkey _ _ cx.phi).there
    clear cx
    refine Br.intro (fun hlt2 => fun w G cx => ⟨_, _, _, rk_cell (i := 1) cx rfl, ?_⟩) (fun hge2 => ?_)
    · have hlt2 : j < st.key.length := by have := of_decide_eq_true hlt2; omega
      obtain ⟨kb, ko, hkp⟩ := hth (by omega)
      rw [List.drop_eq_getElem_cons hlt2, List.any_cons] at hsh
      refine ⟨by omega, ptrK_intro kb ko hkp ⟨st.key[j], ?_, ?_⟩⟩
      · have := hkey _ _ cx.phi
        rw [hkp] at this
        rw [Int.toNat_natCast]
        exact sl_int this hlt2
      clear cx
      refine Br.intro (fun g4 => fun w G cx => stop (bad ?_) cx) (fun g4 => ⟨by unfold I64; omega, _, Φ2, st.key.length - (j + 1), inferInstance, fun w G cx => cx, ⟨j + 1, by omega, hlt2, rfl, rfl, rfl, by rw [hsh, g4, Bool.false_or]⟩, by omega⟩)
      unfold badK
      rw [hsh, g4, Bool.true_or, Bool.or_true]
    · have hge2 : j = st.key.length := by have := of_decide_eq_false hge2; omega
      rw [hge2, List.drop_length] at hsh
      have hok : badK st.key b x = false := by unfold badK; rw [g1, g2, g3, hsh]; rfl
      exact ⟨by unfold I64; omega, _, Φ2, L.length - (i + 1), inferInstance, fun w G cx => cx, ⟨i + 1, by omega, hlt, rfl, rfl, rfl, by rw [hor, hok, Bool.false_or]⟩, by omega⟩
  have hge : i = L.length := by have := of_decide_eq_false hge; omega
  subst hge
  rw [List.drop_length] at hor
  have hor : L.any (badK st.key b) = false := hor
  rw [if_neg (by rw [hor]; simp)]
  refine exI_mk (fun iI R' Φ' k => ∃ i : Nat, iI = i ∧ i ≤ L.length ∧ R' = RkO q st ++ R ∧ Φ' = Φ1 ∧ k = L.length - i ∧ numK ((st.lines.length : Int) + 1) L = numK ((st.lines.length : Int) + 1 + i) (L.drop i)) ⟨⟨_, _, _, inferInstance, fun w G cx => cx, 0, rfl, Nat.zero_le _, rfl, rfl, rfl, by rw [Int.natCast_zero, Int.add_zero]; rfl⟩, ?_⟩
  rintro iI R1 Φ2 k _ ⟨i, rfl, hi, rfl, rfl, rfl, hnu⟩
  refine Br.intro (fun hlt => fun w G cx => ?_) (fun hge => fun w G cx => ⟨?_, cx.left⟩)
  · have hlt : i < L.length := by have := of_decide_eq_true hlt; omega
    obtain ⟨bb, o, hp⟩ := src.ptr (by omega)
    obtain ⟨r, rc, he, h1, h2, h3⟩ := hc i hlt
    rw [List.drop_eq_getElem_cons hlt] at hnu
    have hnu : numK ((st.lines.length : Int) + 1) L = (decide (L[i].no = (st.lines.length : Int) + 1 + i) && numK ((st.lines.length : Int) + 1 + i + 1) (L.drop (i + 1))) := hnu
    have hcell : w.cell? ⟨bb, o + ((i : Nat) : Int).toNat * 7, none⟩ = some (.int .i64 L[i].no) := by
      rw [Int.toNat_natCast]
      exact src_at (S := []) (G := (RkO q st ++ R) ++ G) src hp cx he 0 (by show 0 < 7; decide)
    refine ⟨by omega, ptrK_intro bb o hp ⟨L[i].no, hcell, _, _, _, rk_cell (i := 3) cx rfl, by unfold I64; omega, by unfold I64; omega, ?_⟩⟩
    clear cx hcell
    refine Br.intro (fun h => fun w G cx => ⟨?_, cx.left⟩) (fun h => ⟨by unfold I64; omega, _, Φ2, L.length - (i + 1), inferInstance, fun w G cx => cx, ⟨i + 1, rfl, hlt, rfl, rfl, rfl, ?_⟩, by omega⟩)
    · rw [hnu, decide_eq_false (of_decide_eq_true h), Bool.false_and, if_pos rfl]
    · rw [hnu, decide_eq_true (Decidable.not_not.1 (of_decide_eq_false h)), Bool.true_and, show (st.lines.length : Int) + 1 + i + 1 = (st.lines.length : Int) + 1 + ((i + 1 : Nat) : Int) by omega]
  · have hge : i = L.length := by have := of_decide_eq_false hge; omega
    subst hge
    rw [List.drop_length] at hnu
    rw [show numK ((st.lines.length : Int) + 1) L = true from hnu]; rfl
theorem Look43_q [Stable Φ] {b : Int} [hF : Has Φ (RkF q st)] [hL : Has Φ (fun M w => Sl M w p L)] (hq : RkQ q st) (hll : st.lines.length ≤ 400000) (hkl : st.key.length ≤ 10000000) (hlen : L.length ≤ 400000) :
    GivesQ (RkO q st) Φ Tryz.prog F.errataref43_Sink_look #[snk q, .int .i64 b, .slice p L.length cap] (.int .i64 (lookK st b L)) :=
  ⟨fun W w S c => by
    have hth := (hL.go _ _ c.phi).there
    obtain ⟨cs, c1⟩ := srcOf c (hL.go _ _ c.phi)
    exact ((Look43_src (Φ := fun M w => Φ M w ∧ SrcF p L cs M w) hq hll hkl (src_fact (Φ := fun M w => Φ M w ∧ SrcF p L cs M w) hth fun M w h => h.2) (rows7 c1.phi.2.2) (by omega)).go W w S c1).mono fun e w' ⟨he, c2⟩ => ⟨he, c2.fst⟩⟩

set_option maxHeartbeats 2000000 in
theorem take43_use [Stable Φ] {b : Int} [hF : Has Φ (RkF q st)] [hL : Has Φ (fun M w => Sl M w p L)] (hq : RkQ q st) (hll : st.lines.length ≤ 400000) (hbl : st.bats.length ≤ 8000000) (hlen : L.length ≤ 400000) (c : Ctx W w ((RkO q st ++ R) ++ G) Φ) {K : List Own → PW → Prop}
    (hk : ∀ q' : KP, q'.sb = q.sb → RkQ q' (takeK st b L) → Stable (fun M w => Φ M w ∧ RkF q' (takeK st b L) M w) → K (RkO q' (takeK st b L) ++ R) (fun M w => Φ M w ∧ RkF q' (takeK st b L) M w)) :
    Calls Tryz.prog F.errataref43_Sink_take #[snk q, .int .i64 b, .slice p L.length cap] w fun e w' => e = .returned (.tuple #[]) ∧ ∃ R' Φ', Stable Φ' ∧ Ctx W w' (R' ++ G) Φ' ∧ K R' Φ' := by
  refine (Berrataref43_Sink_take_run q.sb 0 b p L.length cap (R := (RkO q st ++ R) ++ G) (J := fun v w' => v = .tuple #[] ∧ ∃ R' Φ', Stable Φ' ∧ Ctx W w' (R' ++ G) Φ' ∧ K R' Φ') c ?_).mono fun e w' ⟨v, he, hv, rest⟩ => ⟨by rw [he, hv], rest⟩
  clear c
  refine fun w G2 cx => ⟨_, _, _, rk_cell (q := q) (st := st) (R := R ++ G) (G := G2) (i := 2) (cx.re (by simp)) rfl, fun kb w G2 cx => ?_⟩
  have cy : Ctx W w (.blk kb [.int .i64 b] 3 :: bufZ q.bp q.bc st.bats :: (.blk q.sb (SkB q st) 54 :: (R ++ G)) ++ G2) Φ := cx.perm (by simpa using List.Perm.swap _ _ _)
  obtain ⟨p8, c8, w2, hrun, cz⟩ := pushZ (by omega) cy
  refine ⟨p8, _, c8, w2, hrun, .blk q.sb (SkB q st) 54 :: bufZ p8 c8 (st.bats ++ [b]) :: (R ++ G), Φ, inferInstance, Ctx.swap cz, fun w G3 cx => ⟨cx.can 0 rfl (by show 2 + 1 ≤ 6; decide), fun w3 hw3 => ?_⟩⟩
  have c5 := cx.put 0 hw3 rfl
  refine ⟨.blk q.sb [.int .i64 st.kind, .slice q.kp st.key.length q.kc, .slice p8 (st.bats ++ [b]).length c8, .slice q.lp st.lines.length q.lc, .int .i64 st.prep, .slice q.ap st.aside.length q.ac] 54 :: bufZ p8 c8 (st.bats ++ [b]) :: (R ++ G), Φ, inferInstance, c5, fun k19 w G4 cx => ⟨_, _, _, cx.get 1 rfl rfl, fun w G4 cx => ?_⟩⟩
  clear c5 cz cy
  obtain ⟨p27, c27, w30, cs1, hrun1, cx1⟩ := Ctx.cloned (P := Tryz.prog) (ts := 33) (ty := 33) (kb := #[false, false]) (bytes := 72) (c2 := q.lc) (l := st.lines) (q := q.lp) cx (by kernel_rfl) line_one (fun M w h => (hF.go M w h).1) (by omega) (by omega)
  refine ⟨p27, _, c27, w30, hrun1, bufL p27 st.lines.length c27 cs1 :: .blk q.sb [.int .i64 st.kind, .slice q.kp st.key.length q.kc, .slice p8 (st.bats ++ [b]).length c8, .slice q.lp st.lines.length q.lc, .int .i64 st.prep, .slice q.ap st.aside.length q.ac] 54 :: bufZ p8 c8 (st.bats ++ [b]) :: (R ++ G), (fun M w => Φ M w ∧ Elems M w cs1 st.lines), inferInstance, cx1, fun w G5 cx => ?_⟩
  clear cx1
  obtain ⟨p2, c2, w4, news, hrun2, cx3⟩ := Ctx.appAny (P := Tryz.prog) (ts := 33) (ty := 33) (kb := #[false, false]) (bytes := 72) (c2 := cap) (l := L) (q := p) cx (by kernel_rfl) line_one (fun M w h => hL.go M w h.1) (by omega) (by omega)
  have hel : st.lines.length + L.length = (st.lines ++ L).length := by rw [List.length_append]
  rw [hel] at hrun2 cx3
  obtain ⟨cx4, hsl, _, f1, f2⟩ := Ctx.freeze (α := LineD) cx3 (cx3.phi.1.2.append cx3.phi.2)
  have cx5 := cx4.add (Ψ := fun M w => Sl M w p2 (st.lines ++ L)) hsl
  refine ⟨p2, _, c2, w4, hrun2, .blk q.sb [.int .i64 st.kind, .slice q.kp st.key.length q.kc, .slice p8 (st.bats ++ [b]).length c8, .slice q.lp st.lines.length q.lc, .int .i64 st.prep, .slice q.ap st.aside.length q.ac] 54 :: bufZ p8 c8 (st.bats ++ [b]) :: (R ++ G), (fun M w => Φ M w ∧ Sl M w p2 (st.lines ++ L)), inferInstance, cx5.weak fun M w h => ⟨h.1.1.1, h.2⟩, fun w G6 cx => ⟨cx.can 0 rfl (by show 3 + 1 ≤ 6; decide), fun w5 hw5 => ?_⟩⟩
  clear cx3 cx4 cx5 hsl
  have c6 := cx.put 0 hw5 rfl
  obtain ⟨q2, hq2⟩ : ∃ q2 : KP, q2 = ⟨q.sb, q.kp, q.kc, p8, c8, p2, c2, [], q.ap, q.ac⟩ := ⟨_, rfl⟩
  have c7 : Ctx W w5 ((RkO q2 (takeK st b L) ++ R) ++ (G ++ G6)) (fun M w => Φ M w ∧ RkF q2 (takeK st b L) M w) := by
    rw [hq2]
    have c8 := c6.weak (Ψ := fun M w => Φ M w ∧ RkF ⟨q.sb, q.kp, q.kc, p8, c8, p2, c2, [], q.ap, q.ac⟩ (takeK st b L) M w) fun M w h => ⟨h.1, h.2, (hF.go M w h.1).2⟩
    exact c8.re (by simp [takeK])
  have hq' : RkQ q2 (takeK st b L) := rkq_of (S := R ++ (G ++ G6)) (c7.re (by simp)) (by rw [hq2]; exact ⟨f1, f2⟩) (by rw [hq2]; exact hq.kcap) (by rw [hq2]; exact hq.acap)
  exact ⟨RkO q2 (takeK st b L) ++ (R ++ G), _, inferInstance, c7.re (by simp), fun w G7 cx => ⟨rfl, RkO q2 (takeK st b L) ++ R, _, inferInstance, (cx.left).re (by simp), hk q2 (by rw [hq2]) hq' inferInstance⟩⟩
end
end Go.Proofs.YtjlfpkgjcffilaaGreatDoor
end

/-
  The reference's sink: Prepare, Commit, Abort, Deliver, and a call of the model: walked.
-/
section
set_option linter.unusedVariables false
set_option linter.unusedSimpArgs false
namespace Go.Proofs.YtjlfpkgjcffilaaGreatDoor
open Go.Vc


section
variable {Φ : PW} {q : KP} {st : SkD} {W w : World} {R S G : List Own} {p : Option Addr} {cap : Nat} {L : List LineD} {cs : List Value}

theorem rk_put {w' : World} [Stable Φ] (cx : Ctx W w (RkO q st ++ S) Φ) {i : Nat} {v : Value} (e : w' = w.setCell ⟨q.sb, i, none⟩ v) : Ctx W w' (.blk q.sb ((SkB q st).set i v) 54 :: bufZ q.bp q.bc st.bats :: S) Φ := cx.put 0 e rfl
theorem rk_can (cx : Ctx W w (RkO q st ++ S) Φ) {i : Nat} (h : i < 6) : CanWrite w q.sb i 1 := cx.can 0 rfl (by show i + 1 ≤ 6; omega)

set_option maxHeartbeats 2000000 in
theorem Prepare43_use [Stable Φ] {b : Int} [hF : Has Φ (RkF q st)] [hL : Has Φ (fun M w => Sl M w p L)] (hq : RkQ q st) (hI : SkI st) {n : Nat} (hs : SkS st n) (hn : n ≤ 400000) (hlen : L.length ≤ 400000) (c : Ctx W w ((RkO q st ++ R) ++ G) Φ) {K : Int → List Own → PW → Prop}
    (hk : ∀ q' : KP, q'.sb = q.sb → RkQ q' (prepK st b L).2 → Stable (fun M w => Φ M w ∧ RkF q' (prepK st b L).2 M w) → K (prepK st b L).1 (RkO q' (prepK st b L).2 ++ R) (fun M w => Φ M w ∧ RkF q' (prepK st b L).2 M w)) :
    Calls Tryz.prog F.errataref43_Sink_Prepare #[snk q, .int .i64 b, .slice p L.length cap] w fun e w' => ∃ n, e = .returned (.int .i64 n) ∧ ∃ R' Φ', Stable Φ' ∧ Ctx W w' (R' ++ G) Φ' ∧ K n R' Φ' := by
  refine (Berrataref43_Sink_Prepare_run q.sb 0 b p L.length cap (R := (RkO q st ++ R) ++ G) (J := fun v w' => ∃ n, v = .int .i64 n ∧ ∃ R' Φ', Stable Φ' ∧ Ctx W w' (R' ++ G) Φ' ∧ K n R' Φ') c ?_).mono fun e w' ⟨v, he, n, hv, rest⟩ => ⟨n, by rw [he, hv], rest⟩
  clear c
  have same : ∀ (m : Int), prepK st b L = (m, st) → ∀ {w : World} {G2 : List Own}, Ctx W w ((RkO q st ++ (R ++ G)) ++ G2) Φ → ∃ n, Value.int .i64 m = .int .i64 n ∧ ∃ R' Φ', Stable Φ' ∧ Ctx W w (R' ++ G) Φ' ∧ K n R' Φ' := fun m h {w G2} cx => by
    have := hk q rfl
    rw [h] at this
    exact ⟨m, rfl, RkO q st ++ R, _, inferInstance, ((cx.left).re (by simp)).weak fun M w h => ⟨h, hF.go M w h⟩, this hq inferInstance⟩
  refine fun w G2 cx => ⟨st.kind, cx.get 0 rfl rfl, ?_⟩
  clear cx
  have e0 : prepK st b L = if st.kind ≠ 0 then (7, st) else if hasK st b = true then (0, st) else if lookK st b L ≠ 0 then (lookK st b L, st) else (0, { st with prep := b, aside := L }) := rfl
  refine Br.intro (fun h => fun w G2 cx => same 7 (by rw [e0, if_pos (of_decide_eq_true h)]) (G2 := G2) (cx.re (by simp))) (fun h => fun w G2 cx => ?_)
  rw [if_neg (of_decide_eq_false h)] at e0
  refine (Has43_q hq).toB (R := R ++ G) (cx.re (by simp)) ?_
  clear cx
  refine Br.intro (fun h => fun w G2 cx => same 0 (by rw [e0, if_pos h]) cx) (fun h => fun w G2 cx => ?_)
  rw [if_neg (by rw [h]; simp)] at e0
  refine (Look43_q hq (by have := hs.lines; omega) (by have := hs.key; omega) hlen).toI (R := R ++ G) cx ?_
  clear cx
  refine Br.intro (fun h => fun w G2 cx => same _ (by rw [e0, if_pos (of_decide_eq_true h)]) cx) (fun h => fun w G2 cx => ?_)
  rw [if_neg (of_decide_eq_false h)] at e0
  obtain ⟨_, _, g3, _⟩ := look_ok (of_decide_eq_false h)
  refine ⟨rk_can (q := q) (st := st) (S := (R ++ G) ++ G2) (cx.re (by simp)) (by decide), fun w2 hw2 => ?_⟩
  have c2 := rk_put (q := q) (st := st) (S := (R ++ G) ++ G2) (cx.re (by simp)) hw2
  refine ⟨.blk q.sb [.int .i64 st.kind, .slice q.kp st.key.length q.kc, .slice q.bp st.bats.length q.bc, .slice q.lp st.lines.length q.lc, .int .i64 b, .slice q.ap st.aside.length q.ac] 54 :: bufZ q.bp q.bc st.bats :: (R ++ G), Φ, inferInstance, c2, fun w G4 cx => (Clone43_sl (L := L) (by omega) fun x hx => by have := right_len (bad_right (g3 x hx)).2.2.1; omega).to cx fun p1 c1 f1 f2 st1 => ?_⟩
  clear c2 cx
  refine fun w G4 cx => ⟨cx.can 0 rfl (by show 5 + 1 ≤ 6; decide), fun w3 hw3 => ?_⟩
  have c4 := cx.put 0 hw3 rfl
  obtain ⟨q2, hq2⟩ : ∃ q2 : KP, q2 = ⟨q.sb, q.kp, q.kc, q.bp, q.bc, q.lp, q.lc, q.cs, p1, c1⟩ := ⟨_, rfl⟩
  obtain ⟨st2, hst2⟩ : ∃ st2 : SkD, st2 = { st with prep := b, aside := L } := ⟨_, rfl⟩
  rw [← hst2] at e0
  have c7 : Ctx W w3 ((RkO q2 st2 ++ R) ++ (G ++ G4)) (fun M w => Φ M w ∧ RkF q2 st2 M w) := by
    rw [hq2, hst2]
    have c8 := c4.weak (Ψ := fun M w => Φ M w ∧ RkF ⟨q.sb, q.kp, q.kc, q.bp, q.bc, q.lp, q.lc, q.cs, p1, c1⟩ { st with prep := b, aside := L } M w) fun M w h => ⟨h.1, (hF.go M w h.1).1, (hF.go M w h.1).2.1, h.2⟩
    exact c8.re (by simp)
  have hq' : RkQ q2 st2 := rkq_of (S := R ++ (G ++ G4)) (c7.re (by simp)) (by rw [hq2, hst2]; exact hq.lcap) (by rw [hq2, hst2]; exact hq.kcap) (by rw [hq2, hst2]; exact ⟨f1, f2⟩)
  rw [e0] at hk
  exact ⟨RkO q2 st2 ++ (R ++ G), _, inferInstance, c7.re (by simp), fun w G6 cx => ⟨0, rfl, RkO q2 st2 ++ R, _, inferInstance, (cx.left).re (by simp), hk q2 (by rw [hq2]) hq' inferInstance⟩⟩

end
end Go.Proofs.YtjlfpkgjcffilaaGreatDoor
end

/-
  The reference's sink: its encoding, walked.
-/
section
set_option linter.unusedVariables false
set_option linter.unusedSimpArgs false
namespace Go.Proofs.YtjlfpkgjcffilaaGreatDoor
open Go.Vc


theorem bs_app (a b : List UInt8) : bs a ++ bs b = bs (a ++ b) := by
  apply ByteArray.ext
  apply Array.toList_inj.1
  simp [bs, ByteArray.data_append]

section
variable {Φ : PW} {q : KP} {st : SkD} {W w : World} {R S G : List Own} {p : Option Addr} {cap : Nat} {L : List LineD} {cs : List Value}

set_option maxHeartbeats 1000000 in
theorem Nums01_q [Stable Φ] {Q : List Own} {l : List Int} (src : SrcZ Q Φ p l) (hl : l.length ≤ 10000000) (hi : ∀ x ∈ l, I64 x) : GivesQ Q Φ Tryz.prog F.errataref01_Nums #[.slice p l.length cap] (.string ⟨(numsL l).toArray⟩) := by
  have hg := digits_g l.length (by omega)
  have hi' : Lib.itoa (l.length : Int) = Lib.decDigits l.length := by unfold Lib.itoa; rw [if_neg (by omega)]; rfl
  have e : (0 : Int) - l.length = -((l.length : Nat) : Int) := by omega
  rw [← e, ← hi'] at hg
  have hn := numB_size (n := (l.length : Int)) (by unfold I64; omega)
  refine gives_q (Berrataref01_Nums_run p l.length cap) fun W R => ⟨by unfold I64; omega, fun w G cx => (Gives.in hg).toS cx ⟨?_, ?_⟩⟩
  · show (numB (l.length : Int)).size + 1 ≤ 9223372036854775807; omega
  clear cx
  obtain ⟨pre, hpre⟩ : ∃ pre, (numB (l.length : Int)).data.toList = pre := ⟨_, rfl⟩
  have hpl : pre.length ≤ 20 := by rw [← hpre, list_size]; omega
  refine exI_mk (fun s iI R' Φ' k => ∃ i : Nat, iI = i ∧ i ≤ l.length ∧ s = bs (pre ++ 91 :: intsL (l.take i)) ∧ R' = Q ++ R ∧ Φ' = Φ ∧ k = l.length - i) ⟨⟨_, _, _, inferInstance, fun w G cx => cx, 0, rfl, Nat.zero_le _, ?_, rfl, rfl, rfl⟩, ?_⟩
  · rw [← hpre]
    exact (bs_app (numB (l.length : Int)).data.toList [91]).trans (by rw [List.take_zero]; rfl)
  rintro s iI R1 Φ1 k _ ⟨i, rfl, hi2, rfl, rfl, rfl, rfl⟩
  have hlen := intsL_len (l := l.take i) fun x hx => hi x (List.mem_of_mem_take hx)
  rw [List.length_take] at hlen
  have hsz : (bs (pre ++ 91 :: intsL (l.take i))).size = pre.length + ((intsL (l.take i)).length + 1) := by rw [bs_size, List.length_append, List.length_cons]
  refine Br.intro (fun hlt => ?_) (fun hge => ⟨?_, fun w G cx => ⟨?_, cx.left⟩⟩)
  · have hlt : i < l.length := by have := of_decide_eq_true hlt; omega
    obtain ⟨b, o, hp⟩ := src.ptr (by omega)
    have hx := intB_size (hi l[i] (List.getElem_mem hlt))
    refine ⟨by omega, ptrK_intro b o hp fun w G cx => ⟨l[i], by rw [Int.toNat_natCast]; exact src.rd hp (cx.re (List.append_assoc _ _ _)) i hlt, fun w G cx => (Gives.in (Int01_g l[i] (hi l[i] (List.getElem_mem hlt)))).toS cx ⟨?_, by unfold I64; omega, _, Φ1, l.length - (i + 1), inferInstance, fun w G cx => cx, ⟨i + 1, by omega, hlt, ?_, rfl, rfl, rfl⟩, by omega⟩⟩⟩
    · show (bs (pre ++ 91 :: intsL (l.take i))).size + (intB l[i]).size ≤ 9223372036854775807
      rw [hsz]; omega
    · rw [List.take_succ_eq_append_getElem hlt, intsL_app, intsL_one]
      exact (bs_app _ (intB l[i]).data.toList).trans (by rw [List.append_assoc, List.cons_append])
  · show (bs (pre ++ 91 :: intsL (l.take i))).size + 1 ≤ 9223372036854775807
    rw [hsz]; omega
  · have hge : i = l.length := by have := of_decide_eq_false hge; omega
    rw [hge, List.take_length]
    have h2 : bs (pre ++ 91 :: intsL l) ++ bs [93] = bs (numsL l) := by
      rw [bs_app, List.append_assoc, List.cons_append]
      unfold numsL
      rw [hpre]
    exact congrArg Value.string h2

set_option maxHeartbeats 2000000 in
theorem Lines43_src [Stable Φ] (src : Src [] Φ p L cs) (hc : Rows7 cs L) (hl : L.length ≤ 1000000) (hw : ∀ x ∈ L, LineW x) : GivesIn Φ Tryz.prog F.errataref43_lines #[.slice p L.length cap] (.string ⟨(linesS L).toArray⟩) := by
  have hnat := natB_size (n := (L.length : Int)) (by unfold I64; omega)
  refine gives_in (Berrataref43_lines_run p L.length cap) fun W R => fun w G cx => (Gives.in (Num01_g (L.length : Int) (by unfold I64; omega))).toS cx ?_
  clear cx
  obtain ⟨pre, hpre⟩ : ∃ pre, (natB (L.length : Int)).data.toList = pre := ⟨_, rfl⟩
  have hpl : pre.length ≤ 21 := by rw [← hpre, list_size]; omega
  refine exI_mk (fun s iI R' Φ' k => ∃ i : Nat, iI = i ∧ i ≤ L.length ∧ s = bs (pre ++ linesL (L.take i)) ∧ R' = R ∧ Φ' = Φ ∧ k = L.length - i) ⟨⟨_, _, _, inferInstance, fun w G cx => cx, 0, rfl, Nat.zero_le _, ?_, rfl, rfl, rfl⟩, ?_⟩
  · rw [← hpre, List.take_zero, show linesL [] = [] from rfl, List.append_nil]; rfl
  rintro s iI R1 Φ1 k _ ⟨i, rfl, hi2, rfl, rfl, rfl, rfl⟩
  have hlen := linesL_len (l := L.take i) fun x hx => hw x (List.mem_of_mem_take hx)
  rw [List.length_take] at hlen
  have hsz : (bs (pre ++ linesL (L.take i))).size = pre.length + (linesL (L.take i)).length := by rw [bs_size, List.length_append]
  refine Br.intro (fun hlt => ?_) (fun hge => fun w G cx => ⟨?_, cx.left⟩)
  · have hlt : i < L.length := by have := of_decide_eq_true hlt; omega
    obtain ⟨b, o, hp⟩ := src.ptr (by omega)
    obtain ⟨r, rc, he, h1, h2, h3⟩ := hc i hlt
    have hlw := hw L[i] (List.getElem_mem _)
    have hsl : ∀ M w, Φ1 M w → Sl M w r L[i].row := fun M w h => src_sl src hlt he h
    have hrd : ∀ {w : World} {G : List Own}, Ctx W w (R1 ++ G) Φ1 → RowAt w b (o + ((i : Nat) : Int).toNat * 7) (L[i].cells r rc) := fun {w G} cx => by
      rw [Int.toNat_natCast]
      exact src_at (S := []) (G := R1 ++ G) src hp cx he
    have hstep : linesL (L.take (i + 1)) = linesL (L.take i) ++ (lineS L[i]).data.toList := by rw [List.take_succ_eq_append_getElem hlt, linesL_app, linesL_one]
    obtain ⟨x, hx⟩ : ∃ x, L[i] = x := ⟨_, rfl⟩
    rw [hx] at hlw hsl hrd hstep h1
    obtain ⟨X, hX⟩ : ∃ X, bs (pre ++ linesL (L.take i)) = X := ⟨_, rfl⟩
    rw [hX] at hsz ⊢
    have hrs := rowB_small hlw.row hlw.val
    have s0 := intB_size hlw.inn.batch
    have s1 := intB_size hlw.inn.time
    have s2 := intB_size hlw.inn.n
    have s3 := intB_size hlw.inn.cause
    have s4 := intB_size hlw.inn.why
    have s5 := textB_size (s := rowB x.row) (by omega)
    refine ⟨by omega, ptrK_intro b o hp fun w G cx => ⟨x.no, x.batch, x.time, r, x.row.length, rc, x.n, x.cause, x.why, hrd cx, fun _ => ⟨R1, Φ1, inferInstance, fun w G cx => cx, fun w G cx => (Gives.in (Int01_g x.batch hlw.inn.batch)).toS cx ⟨fun w G cx => cx, ?_, fun w G cx => (Gives.in (Int01_g x.time hlw.inn.time)).toS cx ⟨fun w G cx => cx, ?_, fun w G cx => (RowBytes03_in r rc x.row hsl (by have := hlw.row; omega) (fun v hv => by have := (hlw.val v hv).2; omega)).toS cx ⟨fun w G cx => cx, fun w G cx => (Gives.in (Text01_g (rowB x.row) (by omega))).toS cx ⟨fun w G cx => cx, ?_, fun w G cx => (Gives.in (Int01_g x.n hlw.inn.n)).toS cx ⟨fun w G cx => cx, ?_, fun w G cx => (Gives.in (Int01_g x.cause hlw.inn.cause)).toS cx ⟨fun w G cx => cx, ?_, fun w G cx => (Gives.in (Int01_g x.why hlw.inn.why)).toS cx ⟨fun w G cx => cx, ?_, by unfold I64; omega, _, Φ1, L.length - (i + 1), inferInstance, fun w G cx => cx, ⟨i + 1, by omega, hlt, ?_, rfl, rfl, rfl⟩, by omega⟩⟩⟩⟩⟩⟩⟩⟩⟩⟩
    · show X.size + (intB x.batch).size ≤ 9223372036854775807
      omega
    · show (X ++ intB x.batch).size + (intB x.time).size ≤ 9223372036854775807
      rw [size_app]; omega
    · show (X ++ intB x.batch ++ intB x.time).size + (textB (rowB x.row)).size ≤ 9223372036854775807
      rw [size_app, size_app]; omega
    · show (X ++ intB x.batch ++ intB x.time ++ textB (rowB x.row)).size + (intB x.n).size ≤ 9223372036854775807
      rw [size_app, size_app, size_app]; omega
    · show (X ++ intB x.batch ++ intB x.time ++ textB (rowB x.row) ++ intB x.n).size + (intB x.cause).size ≤ 9223372036854775807
      rw [size_app, size_app, size_app, size_app]; omega
    · show (X ++ intB x.batch ++ intB x.time ++ textB (rowB x.row) ++ intB x.n ++ intB x.cause).size + (intB x.why).size ≤ 9223372036854775807
      rw [size_app, size_app, size_app, size_app, size_app]; omega
    · rw [hstep, ← List.append_assoc, ← bs_app, hX]
      show _ = X ++ lineS x
      unfold lineS
      simp only [ByteArray.append_assoc]
  · have hge : i = L.length := by have := of_decide_eq_false hge; omega
    rw [hge, List.take_length, ← hpre]
    rfl
theorem Lines43_in [Stable Φ] {L : List LineD} [hΦ : Has Φ (fun M w => Sl M w p L)] (hl : L.length ≤ 1000000) (hw : ∀ x ∈ L, LineW x) : GivesIn Φ Tryz.prog F.errataref43_lines #[.slice p L.length cap] (.string ⟨(linesS L).toArray⟩) :=
  ⟨fun W w S c => by
    have hth := (hΦ.go _ _ c.phi).there
    obtain ⟨cs, c1⟩ := srcOf c (hΦ.go _ _ c.phi)
    exact GivesIn.use (Lines43_src (Φ := fun M w => Φ M w ∧ SrcF p L cs M w) (src_fact (Φ := fun M w => Φ M w ∧ SrcF p L cs M w) hth (fun M w h => h.2)) (rows7 c1.phi.2.2) hl hw) c1 fun w' c => ⟨rfl, c.fst⟩⟩

theorem rk_w {M : List Nat} {w : World} (hI : SkI st) (h1 : I64 st.kind) (h2 : I64 st.prep) (h : RkF q st M w) : SkW st :=
  ⟨h1, h2, slz_i64 h.2.1, fun x hx => (hI.pos x hx).2, lines_wS h.1 hI.row, lines_wS h.2.2 hI.arow⟩

set_option maxHeartbeats 2000000 in
theorem Bytes43_q [Stable Φ] [hF : Has Φ (RkF q st)] (hq : RkQ q st) (hW : SkW st) {n : Nat} (hs : SkS st n) (hn : n ≤ 400000) : GivesQ (RkO q st) Φ Tryz.prog F.errataref43_Sink_Bytes #[snk q] (.string (skB st)) := by
  have hsz := skB_size hW hs hn
  have h1 := hs.lines
  have h2 := hs.aside
  have h3 := hs.bats
  have h4 := hs.key
  have e : skB st = intB st.kind ++ ⟨(numsL st.key).toArray⟩ ++ ⟨(numsL st.bats).toArray⟩ ++ ⟨(linesS st.lines).toArray⟩ ++ intB st.prep ++ ⟨(linesS st.aside).toArray⟩ := rfl
  rw [e, size_app, size_app, size_app, size_app, size_app] at hsz
  have hK : ∀ M w, Φ M w → Sl M w q.kp st.key := fun M w h => (hF.go M w h).2.1
  have hA : Has Φ (fun M w => Sl M w q.ap st.aside) := ⟨fun M w h => (hF.go M w h).2.2⟩
  have hL : Has Φ (fun M w => Sl M w q.lp st.lines) := ⟨fun M w h => (hF.go M w h).1⟩
  refine gives_q (Berrataref43_Sink_Bytes_run q.sb 0) fun W R => ?_
  have hth : ∀ {w : World} {G : List Own}, Ctx W w ((RkO q st ++ R) ++ G) Φ → There q.kp st.key.length := fun cx => (hK _ _ cx.phi).there
  refine ⟨RkO q st ++ R, Φ, inferInstance, fun w G cx => cx, st.kind, fun w G cx => ⟨_, rk_cell (i := 0) cx rfl, rfl⟩, q.kp, st.key.length, q.kc, fun w G cx => ⟨_, _, _, rk_cell (i := 1) cx rfl, rfl⟩, q.bp, st.bats.length, q.bc, fun w G cx => ⟨_, _, _, rk_cell (i := 2) cx rfl, rfl⟩, q.lp, st.lines.length, q.lc, fun w G cx => ⟨_, _, _, rk_cell (i := 3) cx rfl, rfl⟩, st.prep, fun w G cx => ⟨_, rk_cell (i := 4) cx rfl, rfl⟩, q.ap, st.aside.length, q.ac, fun w G cx => ⟨_, _, _, rk_cell (i := 5) cx rfl, rfl⟩, fun w G cx => ?_⟩
  have hth := hth cx
  refine (Gives.in (Int01_g st.kind hW.kind)).toS cx ⟨fun w G cx => cx, fun w G cx => (GivesQ.in (Nums01_q (l := st.key) (srcz_fact hth hK) (by omega) hW.key)).toS cx ⟨fun w G cx => cx, ?_, fun w G cx => (Nums01_q (l := st.bats) (srcz_rk hq) (by omega) hW.bats).toS cx ⟨fun w G cx => cx, ?_, fun w G cx => (Lines43_in (L := st.lines) (by omega) hW.lines).toS cx ⟨fun w G cx => cx, ?_, fun w G cx => (Gives.in (Int01_g st.prep hW.prep)).toS cx ⟨fun w G cx => cx, ?_, fun w G cx => (Lines43_in (L := st.aside) (by omega) hW.aside).toS cx ⟨fun w G cx => cx, ?_, fun w G cx => ⟨rfl, cx.left⟩⟩⟩⟩⟩⟩⟩
  · show (intB st.kind).size + (ByteArray.mk (numsL st.key).toArray).size ≤ 9223372036854775807
    omega
  · show (intB st.kind ++ ⟨(numsL st.key).toArray⟩).size + (ByteArray.mk (numsL st.bats).toArray).size ≤ 9223372036854775807
    rw [size_app]; omega
  · show (intB st.kind ++ ⟨(numsL st.key).toArray⟩ ++ ⟨(numsL st.bats).toArray⟩).size + (ByteArray.mk (linesS st.lines).toArray).size ≤ 9223372036854775807
    rw [size_app, size_app]; omega
  · show (intB st.kind ++ ⟨(numsL st.key).toArray⟩ ++ ⟨(numsL st.bats).toArray⟩ ++ ⟨(linesS st.lines).toArray⟩).size + (intB st.prep).size ≤ 9223372036854775807
    rw [size_app, size_app, size_app]; omega
  · show (intB st.kind ++ ⟨(numsL st.key).toArray⟩ ++ ⟨(numsL st.bats).toArray⟩ ++ ⟨(linesS st.lines).toArray⟩ ++ intB st.prep).size + (ByteArray.mk (linesS st.aside).toArray).size ≤ 9223372036854775807
    rw [size_app, size_app, size_app, size_app]; omega
end
end Go.Proofs.YtjlfpkgjcffilaaGreatDoor
end

/-
  The reading of sinks by the reference: plain facts, and contracts of one shape.
-/
section
set_option linter.unusedVariables false
set_option linter.unusedSimpArgs false
namespace Go.Proofs.YtjlfpkgjcffilaaGreatDoor
open Go.Vc


/-- this string is the encoding of this sink, which can be made -/
structure Gd (l : List UInt8) (s : SkD) : Prop where
  made : SkR s
  w : SkW s
  enc : (skB s).data.toList = l
def z0 (x : LineD) : LineD := { x with no := 0 }
theorem ren_z0 : ∀ (n : Int) (l : List LineD), renK n (l.map z0) = renK n l
  | _, [] => rfl
  | n, x :: l => by
    show { z0 x with no := n } :: renK (n + 1) (l.map z0) = { x with no := n } :: renK (n + 1) l
    rw [ren_z0 (n + 1) l]; rfl
theorem ren_len : ∀ (n : Int) (l : List LineD), (renK n l).length = l.length
  | _, [] => rfl
  | n, x :: l => by
    show (renK (n + 1) l).length + 1 = l.length + 1
    rw [ren_len (n + 1) l]
theorem ren_at : ∀ (n : Int) (l : List LineD) (i : Nat) (h : i < l.length), (renK n l)[i]? = some { l[i] with no := n + i }
  | n, x :: l, 0, _ => by
    show some { x with no := n } = some { x with no := n + ((0 : Nat) : Int) }
    rw [show n + ((0 : Nat) : Int) = n by omega]
  | n, x :: l, i + 1, h => by
    show (renK (n + 1) l)[i]? = some { l[i]'(by simpa using h) with no := n + ((i + 1 : Nat) : Int) }
    rw [ren_at (n + 1) l i (by simpa using h), show n + 1 + (i : Int) = n + ((i + 1 : Nat) : Int) by omega]
theorem ren_step {n : Int} {l : List LineD} {i : Nat} (h : i < l.length) : (renK n (l.take i) ++ l.drop i).set i { l[i] with no := n + i } = renK n (l.take (i + 1)) ++ l.drop (i + 1) := by
  apply List.ext_getElem?
  intro j
  have hl : (renK n (l.take i)).length = i := by rw [ren_len, List.length_take]; omega
  have hl2 : (renK n (l.take (i + 1))).length = i + 1 := by rw [ren_len, List.length_take]; omega
  rw [List.getElem?_set]
  rcases Nat.lt_trichotomy j i with h1 | h1 | h1
  · rw [if_neg (by omega), List.getElem?_append_left (by omega), List.getElem?_append_left (by omega), ren_at _ _ _ (by rw [List.length_take]; omega), ren_at _ _ _ (by rw [List.length_take]; omega)]
    simp only [List.getElem_take]
  · subst h1
    rw [if_pos rfl, if_pos (by rw [List.length_append, hl, List.length_drop]; omega), List.getElem?_append_left (by omega), ren_at _ _ _ (by rw [List.length_take]; omega)]
    simp only [List.getElem_take]
  · rw [if_neg (by omega), List.getElem?_append_right (by omega), List.getElem?_append_right (by omega), hl, hl2, List.getElem?_drop, List.getElem?_drop]
    congr 1
    omega

/-! ### the places of an encoding -/
def A5 (s : SkD) : List UInt8 := linesS s.aside ++ []
def A4 (s : SkD) : List UInt8 := (intB s.prep).data.toList ++ A5 s
def A3 (s : SkD) : List UInt8 := linesS s.lines ++ A4 s
def A2 (s : SkD) : List UInt8 := numsL s.bats ++ A3 s
def A1 (s : SkD) : List UInt8 := numsL s.key ++ A2 s
theorem Gd.list {l : List UInt8} {s : SkD} (h : Gd l s) : l = (intB s.kind).data.toList ++ A1 s := by
  rw [← h.enc]
  unfold skB A1 A2 A3 A4 A5
  simp [ByteArray.data_append]
theorem numsL_ge {l : List Int} (h : ∀ x ∈ l, I64 x) : l.length ≤ (numsL l).length := by
  have : ∀ {l : List Int}, (∀ x ∈ l, I64 x) → l.length ≤ (intsL l).length := by
    intro l
    induction l with
    | nil => intro _; simp
    | cons x l ih =>
      intro h
      have ih := ih fun y hy => h y (by simp [hy])
      have hx := intB_size (h x (by simp))
      show _ ≤ ((intB x).data.toList ++ intsL l).length
      rw [List.length_append, list_size, List.length_cons]; omega
  have := this h
  unfold numsL
  rw [List.length_append, List.length_cons, List.length_append]; omega
theorem lineS_pos {x : LineD} (h : LineW x) : 2 ≤ (lineS x).size := by
  have h0 := intB_size h.inn.batch
  unfold lineS
  rw [size_app, size_app, size_app, size_app, size_app]; omega
theorem linesL_ge : ∀ {l : List LineD}, (∀ x ∈ l, LineW x) → l.length ≤ (linesL l).length
  | [], _ => by simp
  | x :: l, h => by
    have ih := linesL_ge (l := l) fun y hy => h y (by simp [hy])
    have hx := lineS_pos (h x (by simp))
    show _ ≤ ((lineS x).data.toList ++ linesL l).length
    rw [List.length_append, list_size, List.length_cons]; omega
theorem linesS_ge {l : List LineD} (h : ∀ x ∈ l, LineW x) : l.length ≤ (linesS l).length := by
  have := linesL_ge h
  unfold linesS
  rw [List.length_append]; omega
/-- how large such a sink is -/
theorem Gd.size {l : List UInt8} {s : SkD} (h : Gd l s) : s.key.length ≤ l.length ∧ s.bats.length ≤ l.length ∧ s.lines.length ≤ l.length ∧ s.aside.length ≤ l.length := by
  have e := h.list
  have h1 := numsL_ge h.w.key
  have h2 := numsL_ge h.w.bats
  have h3 := linesS_ge h.w.lines
  have h4 := linesS_ge h.w.aside
  have e := congrArg List.length e
  unfold A1 A2 A3 A4 A5 at e
  simp only [List.length_append] at e
  exact ⟨by omega, by omega, by omega, by omega⟩
theorem Gd.same {l : List UInt8} {s : SkD} (h : Gd l s) (hl : l.length ≤ 1000000) : readSk l = some s := by
  obtain ⟨h1, h2, h3, h4⟩ := h.size
  have := read_bytes h.made h.w (by omega) (by omega) (by omega) (by omega)
  rw [h.enc] at this
  exact this
theorem bats_made {kind : Int} {key bats : List Int} {lines : List LineD} (h : MadeK kind key bats lines) : batsK bats lines (newK kind key) = some (⟨kind, key, bats, lines, 0, []⟩, []) := by
  have := made_bats h [] [] (by simp)
  rw [List.append_nil, List.append_nil] at this
  rw [this]
  rfl

section
variable {W w : World} {R G S : List Own} {Φ : PW} {b : Nat} {st : RdS}

theorem ReadRow03u_to [Stable Φ] (s : ByteArray) (hl : s.size ≤ 10000000) (c : Ctx W w (R ++ G) Φ) {K : Option Addr → Nat → Nat → Bool → List Own → PW → Prop}
    (h : ∀ r p cap ok, (∀ r', readRowP s.data.toList = some r' → ok = true ∧ r = r') → r.length ≤ cap → cap ≤ maxLen → r.length ≤ 10000000 → Stable (fun M w => Φ M w ∧ Sl M w p r) → K p r.length cap ok R (fun M w => Φ M w ∧ Sl M w p r)) :
    Calls Tryz.prog F.errataref03_ReadRow #[.string s] w fun e w' => ∃ p n c ok, e = .returned (.tuple #[.slice p n c, .bool ok]) ∧ ∃ R' Φ', Stable Φ' ∧ Ctx W w' (R' ++ G) Φ' ∧ K p n c ok R' Φ' := by
  refine (ReadRow03s_to s hl c (K := fun p n cp ok R' Φ' => ∃ Ψ, Stable Ψ ∧ (∀ w', Ctx W w' (R' ++ G) Φ' → Ctx W w' (R' ++ G) Ψ) ∧ K p n cp ok R' Ψ) (fun hn => ?_) (fun r p cap hr h1 h2 st1 => ?_)).mono ?_
  · exact ⟨fun M w => Φ M w ∧ Sl M w none ([] : List ValD), inferInstance, fun w' c => c.weak fun M w h => ⟨h, Sl.nil⟩, h [] none 0 false (fun r' hr => by rw [hn] at hr; cases hr) (Nat.le_refl _) (Nat.zero_le _) (Nat.zero_le _) inferInstance⟩
  · have hf := (readRow_fit hr).1
    rw [list_size] at hf
    exact ⟨_, st1, fun w' c => c, h r p cap true (fun r' hr' => by rw [hr] at hr'; exact ⟨rfl, Option.some.inj hr'⟩) h1 h2 (by omega) st1⟩
  · rintro e w' ⟨p, n, cp, ok, he, R', Φ', hs, hc, Ψ, hs2, hw, hk⟩
    exact ⟨p, n, cp, ok, he, R', Ψ, hs2, hw w' hc, hk⟩
end
end Go.Proofs.YtjlfpkgjcffilaaGreatDoor
end

/-
  The reading of sinks by the reference: walked.
-/
section
set_option linter.unusedVariables false
set_option linter.unusedSimpArgs false
namespace Go.Proofs.YtjlfpkgjcffilaaGreatDoor
open Go.Vc


theorem itemsK_ok : ∀ (k : Nat) {st : RdS} (acc : List Int), RdOk st → RdOk (itemsK k st acc).2
  | 0, st, acc, h => h
  | k + 1, st, acc, h => by
    unfold itemsK
    split
    · exact h
    · exact itemsK_ok k _ (rdInt_ok h)
theorem numsK_ok {st : RdS} (h : RdOk st) : RdOk (numsK st).2 := stepC_ok (itemsK_ok _ _ (stepN_ok h))

/-- the line that the reference reads -/
theorem line_same {y : LineD} {t : List UInt8} {s1 : RdS} (h : LineW y) (e : s1 = ((lineS y).data.toList ++ t, false)) : ∃ r0, readRowP (stepT (rdInt (rdInt s1).2).2).1.data.toList = some r0 ∧ rdL (rdInt s1).2 0 (rdInt s1).1 r0 = (z0 y, (t, false)) := by
  have h1 := line_read (n := 0) (t := t) h
  rw [← e] at h1
  exact lineR_inv h1
theorem rdNat_len (st : RdS) : (rdNat st).2.1.length ≤ st.1.length := stepN_len 59 0 st
theorem rdNat_nn (st : RdS) : 0 ≤ (rdNat st).1 ∧ (rdNat st).1 ≤ 9223372036854775807 := stepN_nonneg (e := 59) (.inr (.inl rfl)) st
theorem rdInt_eat {st : RdS} (h : st.1 ≠ []) : (rdInt st).2.1.length < st.1.length := stepN_eats 59 _ st h
attribute [local irreducible] rdInt rdNat stepT
theorem rdL_snd (st : RdS) (nx no : Int) (r : List ValD) : (rdL st nx no r).2 = (rdInt (rdInt (rdInt (stepT (rdInt st).2).2).2).2).2 := rfl
theorem rdL_in (st : RdS) {nx no : Int} (r : List ValD) (h : I64 nx) (h2 : I64 no) : (rdL st nx no r).1.In := by
  unfold rdL
  exact ⟨h, h2, rdInt_i64 st, rdInt_i64 (stepT (rdInt st).2).2, rdInt_i64 (rdInt (stepT (rdInt st).2).2).2, rdInt_i64 (rdInt (rdInt (stepT (rdInt st).2).2).2).2⟩
theorem rdL_cells (st : RdS) (nx no : Int) (r : List ValD) (p : Option Addr) (c : Nat) : (rdL st nx no r).1.cells p c = [.int .i64 nx, .int .i64 no, .int .i64 (rdInt st).1, .slice p r.length c, .int .i64 (rdInt (stepT (rdInt st).2).2).1, .int .i64 (rdInt (rdInt (stepT (rdInt st).2).2).2).1, .int .i64 (rdInt (rdInt (rdInt (stepT (rdInt st).2).2).2).2).1] := rfl
theorem rdL_row (st : RdS) (nx no : Int) (r : List ValD) : (rdL st nx no r).1.row = r := rfl
theorem prep_back {s : SkD} (h : SkR s) (hp : s.prep ≠ 0) : prepK ⟨s.kind, s.key, s.bats, s.lines, 0, []⟩ s.prep s.aside = (0, s) := by
  obtain ⟨g1, g2, g3⟩ := h.prep hp
  unfold prepK
  rw [if_neg (by simp only; omega), if_neg (by rw [show hasK ⟨s.kind, s.key, s.bats, s.lines, 0, []⟩ s.prep = hasK s s.prep from rfl, g2]; simp), if_neg (by rw [look_same, g3]; simp)]

/-- lines that were owned: their cells are still known -/
theorem freezeSrc {W w : World} {S : List Own} {Φ : PW} [Stable Φ] {p : Option Addr} {n cap : Nat} {cs : List Value} {l : List LineD} (c : Ctx W w (bufL p n cap cs :: S) Φ) (he : Elems (dom (bufL p n cap cs :: S)) w cs l) : Ctx W w S Φ ∧ SrcF p l cs (dom S) w := by
  refine ⟨c.drop1, fun b o hp h0 => ?_, he.1, fun j hj => Gv.stable ⟨Chg.refl _ _, fun b hb => .inl (by rw [dom_cons]; exact List.mem_append_right _ hb)⟩ (he.2 j hj)⟩
  have hl := elems_len7 he
  obtain ⟨g, hg, hm, hc⟩ := c.bufCell 0 rfl (by omega)
  rw [hp] at hg
  cases hg
  refine ⟨?_, fun j hj => ?_, c.lt hm⟩
  · have hnd := c.nodup
    rw [hp, dom_cons, List.nodup_append] at hnd
    exact fun hm2 => hnd.2.2 b (by simp [Own.dom]) b hm2 rfl
  · rw [Nat.zero_add]
    exact (hc j cs[j] (List.getElem?_eq_getElem hj)).1

section
variable {W w : World} {R G S : List Own} {Φ : PW}

set_option maxRecDepth 100000 in
set_option maxHeartbeats 16000000 in
theorem Read43_to [Stable Φ] (l : List UInt8) (hl : l.length ≤ 100000) (c : Ctx W w (R ++ G) Φ) {K : Option Addr → Bool → List Own → PW → Prop}
    (h0 : (∀ s, ¬ Gd l s) → K none false R Φ) (h1 : ∀ p s, Gd l s → K p true R Φ) :
    Calls Tryz.prog F.errataref43_Read #[.string (bs l)] w fun e w' => ∃ p ok, e = .returned (.tuple #[.pointer p, .bool ok]) ∧ ∃ R' Φ', Stable Φ' ∧ Ctx W w' (R' ++ G) Φ' ∧ K p ok R' Φ' := by
  refine (Berrataref43_Read_run (bs l) (J := fun u w' => ∃ p ok, (Ending.returned u) = .returned (.tuple #[.pointer p, .bool ok]) ∧ ∃ R' Φ', Stable Φ' ∧ Ctx W w' (R' ++ G) Φ' ∧ K p ok R' Φ') (R := R ++ G) c ?_).mono fun e w' ⟨v, he, hj⟩ => by rw [he]; exact hj
  clear c
  obtain ⟨T, hT⟩ : ∃ T, R ++ G = T := ⟨_, rfl⟩
  rw [hT]
  have bad : (∀ s, ¬ Gd l s) → ∀ {w : World} {A G2 : List Own} {Ψ : PW} [Stable Ψ], (∀ M w, Ψ M w → Φ M w) → Ctx W w ((A ++ T) ++ G2) Ψ → ∃ p ok, (Ending.returned (Value.tuple #[.pointer none, .bool false])) = .returned (.tuple #[.pointer p, .bool ok]) ∧ ∃ R' Φ', Stable Φ' ∧ Ctx W w (R' ++ G) Φ' ∧ K p ok R' Φ' := fun h {w A G2 Ψ} _ hw cx => ⟨none, false, rfl, R, Φ, inferInstance, by
    have c2 : Ctx W w T Ψ := Ctx.right (S := A) cx.left
    rw [← hT] at c2
    exact c2.weak hw, h0 h⟩
  -- the kind and the key
  refine fun w G2 cx => Open01_to (S := T) l cx fun b => ?_
  clear cx
  refine fun w G2 cx => Int01r_to (S := T) (st := (l, false)) (by show l.length ≤ _; omega) cx ?_
  clear cx
  have f1 : ∀ s, Gd l s → (rdInt (l, false)).1 = s.kind ∧ (rdInt (l, false)).2 = (A1 s, false) := fun s h => by
    have e := h.list
    have h2 := int_read (r := A1 s) (bad := false) h.w.kind
    rw [← e] at h2
    rw [h2]; exact ⟨rfl, rfl⟩
  have hok1 := rdInt_ok (rdOk0 l)
  have hl1 := rdInt_len (l, false)
  have hkd := rdInt_i64 (l, false)
  obtain ⟨kind, hkk⟩ : ∃ k, (rdInt (l, false)).1 = k := ⟨_, rfl⟩
  obtain ⟨st1, hst⟩ : ∃ s, (rdInt (l, false)).2 = s := ⟨_, rfl⟩
  rw [hkk, hst] at f1
  rw [hst] at hok1 hl1
  rw [hkk] at hkd
  rw [hkk, hst]
  have hl1 : st1.1.length ≤ l.length := hl1
  have hok2 := numsK_ok hok1
  obtain ⟨⟨key, st2⟩, hnk⟩ : ∃ x, numsK st1 = x := ⟨_, rfl⟩
  rw [hnk] at hok2
  have hok2 : RdOk st2 := hok2
  have f2 : ∀ s, Gd l s → kind = s.kind ∧ key = s.key ∧ st2 = (A2 s, false) := fun s h => by
    obtain ⟨e1, e2⟩ := f1 s h
    have hs := h.size.1
    have h2 : numsK (A1 s, false) = (s.key, (A2 s, false)) := nums_read (t := A2 s) h.w.key (by omega)
    rw [e2, h2] at hnk
    cases hnk
    exact ⟨e1, rfl, rfl⟩
  have hl2 := (numsK_len hnk).1
  refine fun w G2 cx => Nums01r_to (S := T) hok1 (by omega) hnk cx fun kp kc kg1 kg2 hki hkl hkth stk => ?_
  clear cx
  refine fun w G2 cx => New43_to (R := rq b st2 :: T) (key := key) (kind := kind) (by omega) cx (fun hno => ?_) (fun q0 hok hq0 st3 => ?_)
  · clear cx
    exact Br.intro (fun _ => fun w G2 cx => bad (A := [rq b st2]) (fun s h => by obtain ⟨e1, e2, _⟩ := f2 s h; rw [e1, e2, h.made.ok] at hno; cases hno) (fun M w h => h.1) cx) (fun h => by cases h)
  clear cx
  refine Br.intro (fun h => by cases h) (fun _ => ?_)
  -- the batches
  have hok3 := numsK_ok hok2
  obtain ⟨⟨bats, st3'⟩, hnb⟩ : ∃ x, numsK st2 = x := ⟨_, rfl⟩
  rw [hnb] at hok3
  have hok3 : RdOk st3' := hok3
  have f3 : ∀ s, Gd l s → kind = s.kind ∧ key = s.key ∧ bats = s.bats ∧ st3' = (A3 s, false) := fun s h => by
    obtain ⟨e1, e2, e3⟩ := f2 s h
    have hs := h.size.2.1
    have h2 : numsK (A2 s, false) = (s.bats, (A3 s, false)) := nums_read (t := A3 s) h.w.bats (by omega)
    rw [e3, h2] at hnb
    cases hnb
    exact ⟨e1, e2, rfl, rfl⟩
  have hl3 := (numsK_len hnb).1
  obtain ⟨X0, hX0⟩ : ∃ X, RkO q0 (newK kind key) ++ T = X := ⟨_, rfl⟩
  refine fun w G2 cx => Nums01r_to (S := X0) hok2 (by omega) hnb (by rw [← hX0]; exact Ctx.front cx) fun bp bc bg1 bg2 hbi hbl hbth stb => ?_
  clear cx
  obtain ⟨ΦB, hB⟩ : ∃ X : PW, (fun M w => ((Φ M w ∧ Sl M w kp key) ∧ RkF q0 (newK kind key) M w) ∧ Sl M w bp bats) = X := ⟨_, rfl⟩
  have unB : ∀ M w, ΦB M w → (Φ M w ∧ RkF q0 (newK kind key) M w) ∧ Sl M w bp bats := fun M w h => by rw [← hB] at h; exact ⟨⟨h.1.1.1, h.1.2⟩, h.2⟩
  rw [hB] at stb ⊢
  -- the lists of lines
  obtain ⟨INV, hINV⟩ : ∃ I : Option Addr → Nat → Nat → Int → Bool → Int → List Own → PW → Nat → Prop, ∀ pA kA cA z g nI R' Φ' m, I pA kA cA z g nI R' Φ' m ↔
      ((∃ cells : List Value, cells = [] ∧ nI = 0 ∧ kA = 0 ∧ R' = .buf pA kA cA cells 33 1 :: rq b st3' :: X0 ∧ Φ' = ΦB ∧ z = 0 ∧ g = true ∧ m = 2) ∨
       (∃ (cells : List Value) (l0 : List LineD) (p0 : Option Addr) (c0 : Nat) (d0 : List Value) (s4 : RdS), cells = [.slice p0 l0.length c0] ∧ nI = 1 ∧ kA = 1 ∧ R' = .buf pA kA cA cells 33 1 :: rq b s4 :: (bufL p0 l0.length c0 d0 :: X0) ∧ Φ' = (fun M w => ΦB M w ∧ Elems M w d0 l0) ∧ z = 0 ∧ m = 1 ∧ RdOk s4 ∧ l0.length + s4.1.length ≤ l.length ∧ (∀ s, Gd l s → g = true ∧ l0 = s.lines.map z0 ∧ s4 = (A4 s, false))) ∨
       (∃ (cells : List Value) (l0 : List LineD) (p0 : Option Addr) (c0 : Nat) (d0 : List Value) (l1 : List LineD) (p1 : Option Addr) (c1 : Nat) (d1 : List Value) (s5 : RdS), cells = [.slice p0 l0.length c0, .slice p1 l1.length c1] ∧ nI = 2 ∧ kA = 2 ∧ R' = .buf pA kA cA cells 33 1 :: rq b s5 :: (bufL p1 l1.length c1 d1 :: (bufL p0 l0.length c0 d0 :: X0)) ∧ Φ' = (fun M w => (ΦB M w ∧ Elems M w d0 l0) ∧ Elems M w d1 l1) ∧ m = 0 ∧ l0.length ≤ l.length ∧ l1.length ≤ l.length ∧ I64 z ∧ (∀ s, Gd l s → g = true ∧ l0 = s.lines.map z0 ∧ l1 = s.aside.map z0 ∧ z = s.prep ∧ s5 = ([], false)))) := ⟨_, fun _ _ _ _ _ _ _ _ _ => Iff.rfl⟩
  refine exI_mk INV ⟨⟨.buf none 0 0 [] 33 1 :: rq b st3' :: X0, ΦB, 2, stb, fun w G cx => cx.nobuf 33 1, (hINV _ _ _ _ _ _ _ _ _).2 (.inl ⟨[], rfl, rfl, rfl, rfl, rfl, rfl, rfl, rfl⟩)⟩, ?_⟩
  intro pA kA cA z g nI R1 Φ1 m hst1 hinv
  have hinv := (hINV _ _ _ _ _ _ _ _ _).1 hinv
  rcases hinv with ⟨cells, hcells, hnI, hkA, rfl, rfl, hz, hg, hm⟩ | ⟨cells, l0, p0, c0, d0, s4, hcells, hnI, hkA, rfl, rfl, hz, hm, hok4, hl4, f4⟩ | ⟨cells, l0, p0, c0, d0, l1, p1, c1, d1, s5, hcells, hnI, hkA, rfl, rfl, hm, hl0, hl1', hzi, f5⟩
  case' inr.inr =>
    refine Br.intro (fun h => by have := of_decide_eq_true h; omega) (fun _ => fun w G2 cx => ?_)
    obtain ⟨gA, hgA, _⟩ := cx.bufCell 0 rfl (by rw [hcells]; simp)
    have hp0 : There p0 l0.length := fun h => by
      obtain ⟨g, hg, _⟩ := cx.bufCell 3 rfl (by rw [elems_len7 cx.phi.1.2]; omega)
      exact ⟨g, 0, hg⟩
    have hp1 : 0 < l1.length → ∃ g, p1 = some ⟨g, 0, none⟩ := fun h => by
      obtain ⟨g, hg, _⟩ := cx.bufCell 2 rfl (by rw [elems_len7 cx.phi.2]; omega)
      exact ⟨g, hg⟩
    have hc0 := rows7 cx.phi.1.2
    refine Done01_to (S := .buf pA kA cA cells 33 1 :: (bufL p1 l1.length c1 d1 :: (bufL p0 l0.length c0 d0 :: X0))) cx.swap ?_
    clear cx
    have un5 : ∀ M w, ((ΦB M w ∧ Elems M w d0 l0) ∧ Elems M w d1 l1) → Φ M w := fun M w h => (unB M w h.1.1).1.1
    refine Br.intro (fun h => fun w G2 cx => bad (A := rq b s5 :: .buf pA kA cA cells 33 1 :: bufL p1 l1.length c1 d1 :: bufL p0 l0.length c0 d0 :: RkO q0 (newK kind key)) (fun s hs => by rw [(f5 s hs).2.2.2.2] at h; cases h) un5 (by rw [← hX0] at cx; exact cx)) (fun _ => ?_)
    refine Br.intro (fun h => fun w G2 cx => bad (A := rq b s5 :: .buf pA kA cA cells 33 1 :: bufL p1 l1.length c1 d1 :: bufL p0 l0.length c0 d0 :: RkO q0 (newK kind key)) (fun s hs => by rw [(f5 s hs).1] at h; cases h) un5 (by rw [← hX0] at cx; exact cx)) (fun _ => ?_)
    have hsem : ∀ s, Gd l s → batsK bats (renK 1 l0) (newK kind key) = some (⟨s.kind, s.key, s.bats, s.lines, 0, []⟩, []) := fun s h => by
      obtain ⟨e1, e2, e3, _⟩ := f3 s h
      obtain ⟨_, e5, _⟩ := f5 s h
      rw [e1, e2, e3, e5, ren_z0, ren_num (made_num h.made.made)]
      exact bats_made h.made.made
    -- the batches are taken
    obtain ⟨Lr, hLr⟩ : ∃ L, renK 1 l0 = L := ⟨_, rfl⟩
    rw [hLr] at hsem
    have hLl : Lr.length = l0.length := by rw [← hLr, ren_len]
    obtain ⟨ΦD, hD⟩ : ∃ X : PW, (fun M w => (Φ M w ∧ Sl M w bp bats) ∧ (SrcF p0 l0 d0 M w ∧ Elems M w d1 l1)) = X := ⟨_, rfl⟩
    have stD : Stable ΦD := by rw [← hD]; exact instStableAnd (fun M w => Φ M w ∧ Sl M w bp bats) (fun M w => SrcF p0 l0 d0 M w ∧ Elems M w d1 l1)
    have unD : ∀ M w, ΦD M w → (Φ M w ∧ Sl M w bp bats) ∧ (SrcF p0 l0 d0 M w ∧ Elems M w d1 l1) := fun M w h => by rw [← hD] at h; exact h
    obtain ⟨U, hU⟩ : ∃ U, .buf pA kA cA cells 33 1 :: bufL p1 l1.length c1 d1 :: T = U := ⟨_, rfl⟩
    have stR : ∀ (q : KP) (st : SkD), Stable (fun M w => ΦD M w ∧ RkF q st M w) := fun q st => inferInstance
    refine exI_mk (fun atI nI R' Φ' k => ∃ (i : Nat) (q : KP) (st : SkD), nI = i ∧ i ≤ bats.length ∧ atI = (st.lines.length : Int) ∧ st.lines.length ≤ l0.length ∧ q.sb = q0.sb ∧ RkQ q st ∧ SkI st ∧ MadeK kind key st.bats st.lines ∧ RdK kind key i (l0.length - st.lines.length) l0.length st ∧ batsK bats Lr (newK kind key) = batsK (bats.drop i) (Lr.drop st.lines.length) st ∧ R' = RkO q st ++ U ∧ Φ' = (fun M w => ΦD M w ∧ RkF q st M w) ∧ k = bats.length - i)
      ⟨⟨RkO q0 (newK kind key) ++ U, _, _, stR q0 (newK kind key), fun w G2 cx => ?_, 0, q0, newK kind key, rfl, Nat.zero_le _, rfl, Nat.zero_le _, rfl, hq0, new_i kind key, .nil, ⟨rfl, rfl, rfl, rfl, rfl, by show 0 + _ = _; show 0 + (l0.length - 0) = _; omega⟩, rfl, rfl, rfl, rfl⟩, ?_⟩
    · have c2 : Ctx W w (bufL p0 l0.length c0 d0 :: (RkO q0 (newK kind key) ++ U) ++ G2) (fun M w => (ΦB M w ∧ Elems M w d0 l0) ∧ Elems M w d1 l1) := by
        have c3 := Ctx.drop1 (show Ctx W w (rq b s5 :: (.buf pA kA cA cells 33 1 :: bufL p1 l1.length c1 d1 :: bufL p0 l0.length c0 d0 :: X0) ++ G2) _ from cx)
        rw [← hX0] at c3
        rw [← hU]
        refine c3.perm (List.Perm.append_right G2 ?_)
        refine (List.reverse_perm [.buf pA kA cA cells 33 1, bufL p1 l1.length c1 d1, bufL p0 l0.length c0 d0]).symm.append_right (RkO q0 (newK kind key) ++ T) |>.trans ?_
        refine List.Perm.cons _ ?_
        have h2 : ([bufL p1 l1.length c1 d1, .buf pA kA cA cells 33 1] ++ (RkO q0 (newK kind key) ++ T)).Perm (RkO q0 (newK kind key) ++ ([bufL p1 l1.length c1 d1, .buf pA kA cA cells 33 1] ++ T)) := by
          rw [← List.append_assoc, ← List.append_assoc]
          exact List.Perm.append_right _ List.perm_append_comm
        refine h2.trans (List.Perm.append_left _ ?_)
        exact List.Perm.swap _ _ _
      obtain ⟨c4, hs⟩ := freezeSrc c2 c2.phi.1.2
      refine (c4.add (Ψ := fun M w => SrcF p0 l0 d0 M w) hs).weak fun M w h => ?_
      have hb := unB M w h.1.1.1
      rw [← hD]
      exact ⟨⟨⟨hb.1.1, hb.2⟩, h.2, h.1.2⟩, hb.1.2⟩
    intro atI nI R2 Φ2 k2 _ hinv2
    obtain ⟨i, q, st, rfl, hi, rfl, hat, hsb, hq, hI1, hmk, hk1, hbk, rfl, rfl, rfl⟩ := hinv2
    have hbn := hk1.bats
    have stQ := stR q st
    have hFq : Has (fun M w => ΦD M w ∧ RkF q st M w) (RkF q st) := ⟨fun M w h => h.2⟩
    have badQ : (∀ s, ¬ Gd l s) → ∀ {w : World} {A G2 : List Own} {q : KP} {st : SkD} {Ψ : PW} [Stable Ψ], (∀ M w, Ψ M w → Φ M w) → Ctx W w ((A ++ (RkO q st ++ U)) ++ G2) Ψ → _ := fun h {w A G2 q st Ψ} _ hw cx => bad (A := A ++ (RkO q st ++ [.buf pA kA cA cells 33 1, bufL p1 l1.length c1 d1])) (G2 := G2) h hw (by rw [← hU] at cx; simpa using cx)
    refine Br.intro (fun hlt => ?_) (fun hge => ?_)
    · have hlt : i < bats.length := by have := of_decide_eq_true hlt; omega
      obtain ⟨bb, bo, hbp⟩ := hbth (by omega)
      obtain ⟨bt, hbt⟩ : ∃ x, bats[i] = x := ⟨_, rfl⟩
      have hb64 : I64 bt := by rw [← hbt]; exact hbi _ (List.getElem_mem hlt)
      rw [List.drop_eq_getElem_cons hlt, hbt] at hbk
      obtain ⟨rem, hrem⟩ : ∃ r, Lr.drop st.lines.length = r := ⟨_, rfl⟩
      rw [hrem] at hbk
      have hreml : rem.length = l0.length - st.lines.length := by rw [← hrem, List.length_drop, hLl]
      have hbat : ∀ {w : World} {A G2 : List Own} {Ψ : PW}, (∀ M w, Ψ M w → ΦD M w) → Ctx W w (A ++ G2) Ψ → w.cell? ⟨bb, bo + ((i : Nat) : Int).toNat, none⟩ = some (.int .i64 bt) := fun {w A G2 Ψ} hw cx => by
        have h := (unD _ _ (hw _ _ cx.phi)).1.2
        rw [hbp] at h
        have h2 := sl_int h hlt
        rw [hbt] at h2
        rw [Int.toNat_natCast]
        exact h2
      have stE : ∀ (ds : List Value) (acc : List LineD), Stable (fun M w => (ΦD M w ∧ RkF q st M w) ∧ Elems M w ds acc) := fun ds acc => instStableAnd (fun M w => ΦD M w ∧ RkF q st M w) (fun M w => Elems M w ds acc)
      refine exI_mk (fun jI pp n c R' Φ' k => ∃ (acc : List LineD) (ds : List Value), jI = ((st.lines.length + acc.length : Nat) : Int) ∧ acc.length ≤ rem.length ∧ acc = rem.take acc.length ∧ (∀ x ∈ acc, x.batch = bt) ∧ n = acc.length ∧ R' = bufL pp acc.length c ds :: (RkO q st ++ U) ∧ Φ' = (fun M w => (ΦD M w ∧ RkF q st M w) ∧ Elems M w ds acc) ∧ k = rem.length - acc.length)
        ⟨⟨bufL none 0 0 [] :: (RkO q st ++ U), (fun M w => (ΦD M w ∧ RkF q st M w) ∧ Elems M w [] ([] : List LineD)), _, stE [] [], fun w G2 cx => (cx.nobuf 46 7).weak fun M w h => ⟨h, Elems.nil⟩, [], [], by rw [List.length_nil, Nat.add_zero], Nat.zero_le _, rfl, by simp, rfl, rfl, rfl, rfl⟩, ?_⟩
      rintro jI pp n c R3 Φ3 k3 _ ⟨acc, ds, rfl, hal, hae, hab, rfl, rfl, rfl, rfl⟩
      have stA := stE ds acc
      have src0 : Src [] (fun M w => (ΦD M w ∧ RkF q st M w) ∧ Elems M w ds acc) p0 l0 d0 := src_fact hp0 fun M w h => (unD M w h.1.1).2.1
      have cellA : ∀ {w : World} {G2 : List Own}, Ctx W w ((bufL pp acc.length c ds :: (RkO q st ++ U)) ++ G2) (fun M w => (ΦD M w ∧ RkF q st M w) ∧ Elems M w ds acc) → w.cell? ⟨gA, 0, none⟩ = some (.slice p0 l0.length c0) := fun {w G2} cx => by
        rw [← hU] at cx
        exact cx.bufGet 3 rfl hgA (by rw [hcells]; rfl)
      have hjl : ∀ h : acc.length < rem.length, rem[acc.length] = { l0[st.lines.length + acc.length]'(by omega) with no := 1 + ((st.lines.length + acc.length : Nat) : Int) } := fun h => by
        have h2 : rem[acc.length]? = (renK 1 l0)[st.lines.length + acc.length]? := by rw [← hrem, ← hLr, List.getElem?_drop]
        rw [List.getElem?_eq_getElem h, ren_at 1 l0 _ (by omega)] at h2
        exact Option.some.inj h2
      refine fun w G2 cx => ⟨by omega, ptrK_intro gA 0 hgA ⟨p0, l0.length, c0, cellA cx, fun _ => by omega, ptrK_intro gA 0 hgA ⟨p0, l0.length, c0, fun _ => cellA cx, fun _ => by omega, ptrK_intro gA 0 hgA ⟨p0, l0.length, c0, fun _ => cellA cx, fun h => by unfold I64; omega, fun h => by have := of_decide_eq_true h; omega, ptrK_of (fun h => hp0 (by have := of_decide_eq_true h; omega)) fun b3 o3 hb3 => ⟨(l0[st.lines.length + acc.length]?.map LineD.batch).getD 0, fun h => ?_, fun _ => by omega, ptrK_intro bb bo hbp ⟨bt, fun _ => hbat (A := bufL pp acc.length c ds :: (RkO q st ++ U)) (fun M w h => h.1.1) cx, ?_⟩⟩⟩⟩⟩⟩
      · have hj : st.lines.length + acc.length < l0.length := by have := of_decide_eq_true h; omega
        obtain ⟨r, rc, hre, _⟩ := hc0 _ hj
        have h2 := src_at (S := []) (G := (bufL pp acc.length c ds :: (RkO q st ++ U)) ++ G2) src0 (hb3 h) cx hre 1 (by show 1 < 7; decide)
        rw [List.getElem?_eq_getElem hj]
        rw [show (min (((st.lines.length + acc.length : Nat)) : Int) ((l0.length : Int) - 1)).toNat = st.lines.length + acc.length by omega]
        exact h2
      clear cx hb3
      refine Br.intro (fun hin => ?_) (fun hout => ⟨by omega, ptrK_intro bb bo hbp fun w G2 cx => ⟨bt, hbat (A := bufL pp acc.length c ds :: (RkO q st ++ U)) (fun M w h => h.1.1) cx, fun w G2 cx => ?_⟩⟩)
      · rw [Bool.and_eq_true] at hin
        have hj : st.lines.length + acc.length < l0.length := by have := of_decide_eq_true hin.1; omega
        have hjb := of_decide_eq_true hin.2
        rw [List.getElem?_eq_getElem hj] at hjb
        have hjb : l0[st.lines.length + acc.length].batch = bt := hjb
        have hrl : acc.length < rem.length := by omega
        have hjr := hjl hrl
        obtain ⟨r, rc, hre, y1, y2, y3⟩ := hc0 _ hj
        obtain ⟨g0, o0, hp0'⟩ := hp0 (by omega)
        have hrow : ∀ {w : World} {G2 : List Own}, Ctx W w ((bufL pp acc.length c ds :: (RkO q st ++ U)) ++ G2) (fun M w => (ΦD M w ∧ RkF q st M w) ∧ Elems M w ds acc) → RowAt w g0 (o0 + (((st.lines.length + acc.length : Nat)) : Int).toNat * 7) (l0[st.lines.length + acc.length].cells r rc) := fun {w G2} cx => by
          rw [Int.toNat_natCast]
          exact src_at (S := []) (G := (bufL pp acc.length c ds :: (RkO q st ++ U)) ++ G2) src0 hp0' cx hre
        have hsl : ∀ M w, ((ΦD M w ∧ RkF q st M w) ∧ Elems M w ds acc) → Sl M w r l0[st.lines.length + acc.length].row := fun M w h => src_sl src0 hj hre h
        obtain ⟨y, hy⟩ : ∃ y, l0[st.lines.length + acc.length] = y := ⟨_, rfl⟩
        rw [hy] at hjr hjb hrow hsl y1 y3
        refine ⟨by omega, ptrK_intro gA 0 hgA fun w G2 cx => ⟨p0, l0.length, c0, cellA cx, by omega, ptrK_intro g0 o0 hp0' fun w G2 cx => ⟨y.no, y.batch, y.time, r, y.row.length, rc, y.n, y.cause, y.why, hrow cx, fun _ => ⟨by unfold I64; omega, fun kb w G2 cx => ?_⟩⟩⟩⟩
        have hin : ({ y with no := ((st.lines.length + acc.length : Nat) : Int) + 1 } : LineD).In := ⟨by show I64 (((st.lines.length + acc.length : Nat) : Int) + 1); unfold I64; omega, y3.batch, y3.time, y3.n, y3.cause, y3.why⟩
        obtain ⟨x, hx⟩ : ∃ x : LineD, x = { y with no := ((st.lines.length + acc.length : Nat) : Int) + 1 } := ⟨_, rfl⟩
        have hxr : x.row = y.row := by rw [hx]
        have hxe : rem[acc.length] = x := by rw [hjr, hx, Int.add_comm]
        have hxc : x.cells r rc = [.int .i64 (((st.lines.length + acc.length : Nat) : Int) + 1), .int .i64 y.batch, .int .i64 y.time, .slice r y.row.length rc, .int .i64 y.n, .int .i64 y.cause, .int .i64 y.why] := by rw [hx]
        rw [← hx] at hin
        rw [← hxc] at cx
        have cx1 : Ctx W w (.blk kb (x.cells r rc) 46 :: .buf pp acc.length c ds 46 7 :: (RkO q st ++ U) ++ G2) (fun M w => (ΦD M w ∧ RkF q st M w) ∧ Elems M w ds acc) := cx
        have cx2 := cx1.add (Ψ := fun M w => Sl M w r y.row) (hsl _ _ cx1.phi)
        have stS : Stable (fun M w => (ΦD M w ∧ RkF q st M w) ∧ Sl M w r y.row) := instStableAnd (fun M w => ΦD M w ∧ RkF q st M w) (fun M w => Sl M w r y.row)
        obtain ⟨p', c', w', hrun, cx'⟩ := pushK (PS := fun M w => (ΦD M w ∧ RkF q st M w) ∧ Sl M w r y.row) (x := x) (a := r) (ac := rc) (fun M w h => rep_line (by rw [hxr]; exact y1) y2 hin (by rw [hxr]; exact h.2)) (by omega) (cx2.weak fun M w h => ⟨⟨h.1.1, h.2⟩, h.1.2⟩)
        have hal1 : (acc ++ [x]).length = acc.length + 1 := by rw [List.length_append, List.length_singleton]
        refine ⟨p', _, c', w', hrun, bufL p' (acc ++ [x]).length c' (ds ++ x.cells r rc) :: (RkO q st ++ U), (fun M w => (ΦD M w ∧ RkF q st M w) ∧ Elems M w (ds ++ x.cells r rc) (acc ++ [x])), stE _ _, cx'.weak fun M w h => ⟨h.1.1, h.2⟩, by unfold I64; omega, _, _, rem.length - (acc ++ [x]).length, stE _ _, fun w G cx => cx, ⟨acc ++ [x], _, by omega, by omega, by rw [hal1, List.take_succ_eq_append_getElem hrl, hxe, ← hae], fun u hu => ?_, rfl, rfl, rfl, rfl⟩, by omega⟩
        rcases List.mem_append.1 hu with hu | hu
        · exact hab u hu
        · rw [List.mem_singleton.1 hu, hx]; exact hjb
      · have hne : ∀ h : acc.length < rem.length, rem[acc.length].batch ≠ bt := fun h e => by
          have hj : st.lines.length + acc.length < l0.length := by omega
          rw [hjl h] at e
          rcases Bool.and_eq_false_iff.1 hout with h2 | h2
          · have := of_decide_eq_false h2; omega
          · have h2 := of_decide_eq_false h2
            rw [List.getElem?_eq_getElem hj] at h2
            exact h2 e
        obtain ⟨hh1, hh2⟩ := head_take hal (by rw [← hae]; exact hab) hne
        rw [← hae] at hh1
        have hbs : batsK (bt :: bats.drop (i + 1)) rem st = if lookK st bt (headK bt rem) = 0 then batsK (bats.drop (i + 1)) (restK bt rem) (takeK st bt (headK bt rem)) else none := rfl
        rw [hh1, hh2] at hbs
        rw [hbs] at hbk
        obtain ⟨c2, hs, _, g1, g2⟩ := Ctx.freeze (α := LineD) cx cx.phi.2
        have c3 : Ctx W w ((RkO q st ++ U) ++ G2) (fun M w => (ΦD M w ∧ RkF q st M w) ∧ Sl M w pp acc) := (c2.add (Ψ := fun M w => Sl M w pp acc) hs).weak fun M w h => ⟨h.1.1, h.2⟩
        have stL : Stable (fun M w => (ΦD M w ∧ RkF q st M w) ∧ Sl M w pp acc) := instStableAnd (fun M w => ΦD M w ∧ RkF q st M w) (fun M w => Sl M w pp acc)
        have hFL : Has (fun M w => (ΦD M w ∧ RkF q st M w) ∧ Sl M w pp acc) (RkF q st) := ⟨fun M w h => h.1.2⟩
        have hLL : Has (fun M w => (ΦD M w ∧ RkF q st M w) ∧ Sl M w pp acc) (fun M w => Sl M w pp acc) := ⟨fun M w h => h.2⟩
        clear cx c2
        have hkl : st.key.length ≤ 10000000 := by rw [hk1.key]; omega
        rw [← hsb]
        refine (Look43_q (L := acc) hq (by omega) hkl (by omega)).toI (R := U) c3 ?_
        clear c3
        refine Br.intro (fun hz => fun w G2 cx => badQ (A := []) (fun s h => ?_) (fun M w h => (unD M w h.1.1).1.1) cx) (fun hz => ?_)
        · have h2 := hsem s h
          rw [hbk, if_neg (of_decide_eq_true hz)] at h2
          cases h2
        have hz := Decidable.not_not.1 (of_decide_eq_false hz)
        rw [if_pos hz] at hbk
        obtain ⟨gz1, gz2, gz3, _⟩ := look_ok (s := st) (b := bt) (L := acc) (by rw [hz]; simp)
        refine ⟨by omega, ptrK_intro bb bo hbp fun w G2 cx => ⟨bt, hbat (A := RkO q st ++ U) (fun M w h => h.1.1) cx, fun w G2 cx => take43_use (R := U) (b := bt) (L := acc) hq (by omega) (by omega) (by omega) cx fun q' hsb' hq' st9 => ?_⟩⟩
        clear cx
        have htl : (takeK st bt acc).lines.length = st.lines.length + acc.length := by show (st.lines ++ acc).length = _; rw [List.length_append]
        refine ⟨by unfold I64; omega, RkO q' (takeK st bt acc) ++ U, (fun M w => ΦD M w ∧ RkF q' (takeK st bt acc) M w), bats.length - (i + 1), stR _ _, fun w G2 cx => cx.weak fun M w h => ⟨h.1.1.1, h.2⟩, ⟨i + 1, q', takeK st bt acc, by omega, hlt, by rw [htl], by rw [htl]; omega, by rw [hsb', hsb], hq', take_i hI1 gz2 gz1 hb64 (fun x hx => (bad_right (gz3 x hx)).2.2.1), .take hmk (by rw [← hk1.kind, ← hk1.key, look_same]; exact hz), ⟨hk1.kind, hk1.key, hk1.prep, hk1.aside, ?_, ?_⟩, ?_, rfl, rfl, rfl⟩, by omega⟩
        · show (st.bats ++ [bt]).length = _
          rw [List.length_append, List.length_singleton]; omega
        · rw [htl]; omega
        · rw [hbk, htl, ← hrem, List.drop_drop]
    · have hge : i = bats.length := by have := of_decide_eq_false hge; omega
      rw [hge, List.drop_length] at hbk
      have hbk : batsK bats Lr (newK kind key) = some (st, Lr.drop st.lines.length) := hbk
      have hst : ∀ s, Gd l s → st = ⟨s.kind, s.key, s.bats, s.lines, 0, []⟩ := fun s h => by
        have h2 := hsem s h
        rw [hbk] at h2
        exact (Prod.ext_iff.1 (Option.some.inj h2)).1
      have hkl : st.key.length ≤ 200000 := by rw [hk1.key]; omega
      have hSt : SkS st 200000 := ⟨by omega, by omega, by rw [hk1.aside]; exact Nat.zero_le _, by omega⟩
      obtain ⟨L1, hL1⟩ : ∃ L, renK ((st.lines.length : Int) + 1) l1 = L := ⟨_, rfl⟩
      have hL1l : L1.length = l1.length := by rw [← hL1, ren_len]
      have hL1s : ∀ s, Gd l s → L1 = s.aside ∧ z = s.prep := fun s h => by
        obtain ⟨_, _, e5, e6, _⟩ := f5 s h
        refine ⟨?_, e6⟩
        rw [← hL1, e5, ren_z0, hst s h]
        by_cases hp : s.prep = 0
        · rw [h.made.none hp]; rfl
        · have h2 := (h.made.prep hp).2.2
          exact ren_num (look_ok (s := s) (b := s.prep) (L := s.aside) (by rw [h2]; simp)).2.2.2
      -- the encoding
      have tail : ∀ (q' : KP) (s' : SkD) (Ψ : PW) (A : List Own), Stable Ψ → (∀ M w, Ψ M w → Φ M w ∧ RkF q' s' M w) → q'.sb = q0.sb → RkQ q' s' → SkI s' → SkR s' → SkS s' 200000 → I64 s'.kind → I64 s'.prep → (∀ s, Gd l s → s' = s) → ∀ (w : World) (G2 : List Own), Ctx W w ((RkO q' s' ++ (A ++ T)) ++ G2) Ψ →
          Calls Tryz.prog F.errataref43_Sink_Bytes #[.pointer (some ⟨q0.sb, 0, none⟩)] w fun e w' => ∃ (s : ByteArray), e = .returned (.string s) ∧ ∃ (R2 : List Own) (Φ2 : PW), Stable Φ2 ∧ Ctx W w' (R2 ++ G2) Φ2 ∧
            Br (decide (s ≠ bs l)) (∀ (w : World) (G3 : List Own), Ctx W w (R2 ++ G3) Φ2 → ∃ p ok, (Ending.returned (Value.tuple #[.pointer none, .bool false])) = .returned (.tuple #[.pointer p, .bool ok]) ∧ ∃ R' Φ', Stable Φ' ∧ Ctx W w (R' ++ G) Φ' ∧ K p ok R' Φ')
              (∀ (w : World) (G3 : List Own), Ctx W w (R2 ++ G3) Φ2 → ∃ p ok, (Ending.returned (Value.tuple #[.pointer (some ⟨q0.sb, 0, none⟩), .bool true])) = .returned (.tuple #[.pointer p, .bool ok]) ∧ ∃ R' Φ', Stable Φ' ∧ Ctx W w (R' ++ G) Φ' ∧ K p ok R' Φ') := by
        intro q' s' Ψ A stΨ hw hsb' hq' hI' hR' hS' hk' hp' hr w G2 cx
        have hW := rk_w hI' hk' hp' (hw _ _ cx.phi).2
        have hFF : Has Ψ (RkF q' s') := ⟨fun M w h => (hw M w h).2⟩
        rw [← hsb']
        refine (Bytes43_q hq' hW hS' (by omega)).toS (R := A ++ T) cx ?_
        clear cx
        refine Br.intro (fun h => fun w G3 cx => bad (A := RkO q' s' ++ A) (fun s hs => of_decide_eq_true h (by rw [hr s hs, ← hs.enc]; rfl)) (fun M w h => (hw M w h).1) (by simpa using cx)) (fun h => fun w G3 cx => ?_)
        have henc : (skB s').data.toList = l := by rw [Decidable.not_not.1 (of_decide_eq_false h)]; rfl
        refine ⟨_, true, rfl, R, Φ, inferInstance, ?_, h1 _ s' ⟨hR', hW, henc⟩⟩
        have c2 : Ctx W w T Ψ := Ctx.right (S := RkO q' s' ++ A) (by simpa using cx.left)
        rw [← hT] at c2
        exact c2.weak fun M w h => (hw M w h).1
      -- the lines aside are numbered
      have stN : ∀ (d : List Value) (L : List LineD), Stable (fun M w => (Φ M w ∧ RkF q st M w) ∧ Elems M w d L) := fun d L => instStableAnd (fun M w => Φ M w ∧ RkF q st M w) (fun M w => Elems M w d L)
      refine exI_mk (fun nI R' Φ' k => ∃ (x : Nat) (d : List Value), nI = x ∧ x ≤ l1.length ∧ R' = bufL p1 l1.length c1 d :: (RkO q st ++ (.buf pA kA cA cells 33 1 :: T)) ∧ Φ' = (fun M w => (Φ M w ∧ RkF q st M w) ∧ Elems M w d (renK ((st.lines.length : Int) + 1) (l1.take x) ++ l1.drop x)) ∧ k = l1.length - x)
        ⟨⟨bufL p1 l1.length c1 d1 :: (RkO q st ++ (.buf pA kA cA cells 33 1 :: T)), (fun M w => (Φ M w ∧ RkF q st M w) ∧ Elems M w d1 l1), _, stN d1 l1, fun w G2 cx => ?_, 0, d1, rfl, Nat.zero_le _, rfl, rfl, rfl⟩, ?_⟩
      · rw [← hU] at cx
        refine Ctx.weak (Φ := fun M w => ΦD M w ∧ RkF q st M w) (cx.perm (List.Perm.append_right G2 ?_)) fun M w h => ⟨⟨(unD M w h.1).1.1, h.2⟩, (unD M w h.1).2.2⟩
        have h2 := List.perm_middle (l₁ := RkO q st ++ [.buf pA kA cA cells 33 1]) (a := bufL p1 l1.length c1 d1) (l₂ := T)
        simpa using h2
      rintro nI R3 Φ3 k3 _ ⟨x, d, rfl, hx, rfl, rfl, rfl⟩
      have stX := stN d (renK ((st.lines.length : Int) + 1) (l1.take x) ++ l1.drop x)
      have cell1 : ∀ {w : World} {G2 : List Own} {Ψ : PW}, Ctx W w ((bufL p1 l1.length c1 d :: (RkO q st ++ (.buf pA kA cA cells 33 1 :: T))) ++ G2) Ψ → w.cell? ⟨gA, 1, none⟩ = some (.slice p1 l1.length c1) := fun {w G2 Ψ} cx => cx.bufGet 3 rfl hgA (by rw [hcells]; rfl)
      refine ⟨by omega, ptrK_intro gA 0 hgA fun w G2 cx => ⟨p1, l1.length, c1, cell1 cx, ?_⟩⟩
      clear cx
      refine Br.intro (fun hlt => ?_) (fun hge2 => ?_)
      · have hlt : x < l1.length := by have := of_decide_eq_true hlt; omega
        obtain ⟨g, hg⟩ := hp1 (by omega)
        have hyl : (renK ((st.lines.length : Int) + 1) (l1.take x) ++ l1.drop x)[x]? = some l1[x] := by
          have hl2 : (renK ((st.lines.length : Int) + 1) (l1.take x)).length = x := by rw [ren_len, List.length_take]; omega
          rw [List.getElem?_append_right (by omega), hl2, Nat.sub_self, List.getElem?_drop, Nat.add_zero, List.getElem?_eq_getElem hlt]
        have hl3 : (renK ((st.lines.length : Int) + 1) (l1.take x) ++ l1.drop x).length = l1.length := by rw [List.length_append, ren_len, List.length_take, List.length_drop]; omega
        refine ⟨by omega, ptrK_intro gA 0 hgA (ptrK_intro q.sb 0 (by rw [hsb]) fun w G2 cx => ⟨p1, l1.length, c1, cell1 cx, fun w G2 cx => ⟨_, _, _, cx.get 1 rfl rfl, by unfold I64; omega, by unfold I64; omega, by omega, ptrK_intro g 0 hg fun w G2 cx => ⟨?_, fun w2 hw2 => ?_⟩⟩⟩)⟩
        · have hcl := elems_len7 cx.phi.2
          rw [hg] at cx
          exact l_can (S := (RkO q st ++ (.buf pA kA cA cells 33 1 :: T)) ++ G2) cx (by omega)
        · have hw3 : w2 = w.setCell ⟨g, x * 7 + 0, none⟩ (.int .i64 ((st.lines.length : Int) + 1 + x)) := by
            rw [hw2, show 0 + ((x : Nat) : Int).toNat * 7 = x * 7 + 0 by omega]
          rw [hg] at cx
          obtain ⟨d', cx3⟩ := sk_cellI (S := (RkO q st ++ (.buf pA kA cA cells 33 1 :: T)) ++ G2) (Φ := fun M w => Φ M w ∧ RkF q st M w) (k := 0) cx { l1[x] with no := (st.lines.length : Int) + 1 + x } hyl (by decide) rfl (fun p c => rfl) (fun h => ⟨by show I64 ((st.lines.length : Int) + 1 + x); unfold I64; omega, h.batch, h.time, h.n, h.cause, h.why⟩) hw3
          rw [ren_step hlt, ← hg] at cx3
          exact ⟨bufL p1 l1.length c1 d' :: (RkO q st ++ (.buf pA kA cA cells 33 1 :: T)), _, stN d' _, cx3, by unfold I64; omega, _, _, l1.length - (x + 1), stN d' _, fun w G cx => cx, ⟨x + 1, d', by omega, hlt, rfl, rfl, rfl⟩, by omega⟩
      · have hge2 : x = l1.length := by have := of_decide_eq_false hge2; omega
        subst hge2
        rw [List.take_length, List.drop_length, List.append_nil, hL1] at stX ⊢
        refine Br.intro (fun hz => ?_) (fun hz => ?_)
        · have hz := of_decide_eq_true hz
          refine ⟨by omega, ptrK_intro gA 0 hgA fun w G2 cx => ⟨p1, l1.length, c1, cell1 cx, fun w G2 cx => ?_⟩⟩
          obtain ⟨c2, hs, _, g1, g2⟩ := Ctx.freeze (α := LineD) cx cx.phi.2
          have c3 : Ctx W w ((RkO q st ++ (.buf pA kA cA cells 33 1 :: T)) ++ G2) (fun M w => (Φ M w ∧ RkF q st M w) ∧ Sl M w p1 L1) := (c2.add (Ψ := fun M w => Sl M w p1 L1) hs).weak fun M w h => ⟨h.1.1, h.2⟩
          have stL : Stable (fun M w => (Φ M w ∧ RkF q st M w) ∧ Sl M w p1 L1) := instStableAnd (fun M w => Φ M w ∧ RkF q st M w) (fun M w => Sl M w p1 L1)
          have hFL : Has (fun M w => (Φ M w ∧ RkF q st M w) ∧ Sl M w p1 L1) (RkF q st) := ⟨fun M w h => h.1.2⟩
          have hLL : Has (fun M w => (Φ M w ∧ RkF q st M w) ∧ Sl M w p1 L1) (fun M w => Sl M w p1 L1) := ⟨fun M w h => h.2⟩
          clear cx c2
          obtain ⟨m', s', hm⟩ : ∃ m s, prepK st z L1 = (m, s) := ⟨_, _, rfl⟩
          have hcs := prep_cases st z L1
          have hpi := prep_i hI1 (b := z) (L := L1)
          have hms : ∀ s, Gd l s → m' = 0 ∧ s' = s := fun s h => by
            obtain ⟨e1, e2⟩ := hL1s s h
            have h2 := prep_back h.made (by omega)
            rw [← e1, ← e2, ← hst s h, hm] at h2
            exact Prod.ext_iff.1 h2
          rw [← hsb, ← hL1l]
          refine Prepare43_use (R := .buf pA kA cA cells 33 1 :: T) (b := z) (L := L1) hq hI1 hSt (by omega) (by omega) c3 fun q' hsb' hq' st11 => ?_
          clear c3
          rw [hm] at hq' st11 hcs hpi ⊢
          have hq' : RkQ q' s' := hq'
          have hpi : SkI s' := hpi
          have st11 : Stable (fun M w => ((Φ M w ∧ RkF q st M w) ∧ Sl M w p1 L1) ∧ RkF q' s' M w) := st11
          refine Br.intro (fun h => fun w G2 cx => bad (Ψ := fun M w => ((Φ M w ∧ RkF q st M w) ∧ Sl M w p1 L1) ∧ RkF q' s' M w) (A := RkO q' s' ++ [.buf pA kA cA cells 33 1]) (fun s hs => of_decide_eq_true h (hms s hs).1) (fun M w h => h.1.1.1) (by simpa using cx)) (fun h => Br.intro (fun _ => ptrK_intro q'.sb 0 (by rw [hsb']) fun w G2 cx => ⟨s'.prep, rk_cell (q := q') (st := s') (R := .buf pA kA cA cells 33 1 :: T) (i := 4) cx rfl, ?_⟩) (fun h2 => absurd (Decidable.not_not.1 (of_decide_eq_false h2)) hz))
          clear cx
          refine Br.intro (fun h2 => fun w G2 cx => bad (Ψ := fun M w => ((Φ M w ∧ RkF q st M w) ∧ Sl M w p1 L1) ∧ RkF q' s' M w) (A := RkO q' s' ++ [.buf pA kA cA cells 33 1]) (fun s hs => of_decide_eq_true h2 (by rw [(hms s hs).2, (hL1s s hs).2])) (fun M w h => h.1.1.1) (by simpa using cx)) (fun h2 => Br.intro (fun h3 => absurd (of_decide_eq_true h3) hz) (fun _ => ?_))
          have h2 := Decidable.not_not.1 (of_decide_eq_false h2)
          have h0m : m' = 0 := Decidable.not_not.1 (of_decide_eq_false h)
          have hform : st.kind = 0 ∧ hasK st z = false ∧ ¬ lookK st z L1 ≠ 0 ∧ s' = { st with prep := z, aside := L1 } := by
            rcases hcs with ⟨e, _⟩ | ⟨e1, e2, e3, e⟩
            · have e : s' = st := e
              rw [e, hk1.prep] at h2
              exact absurd h2.symm hz
            · exact ⟨e1, e2, e3, (Prod.ext_iff.1 e).2⟩
          obtain ⟨k1, k2, k3, k4⟩ := hform
          rw [hsb]
          refine tail q' s' (fun M w => ((Φ M w ∧ RkF q st M w) ∧ Sl M w p1 L1) ∧ RkF q' s' M w) [.buf pA kA cA cells 33 1] st11 (fun M w h => ⟨h.1.1.1, h.2⟩) (by rw [hsb', hsb]) hq' hpi ?_ ?_ (by rw [k4]; show I64 st.kind; rw [hk1.kind]; exact hkd) (by rw [h2]; exact hzi) fun s hs => (hms s hs).2
          · rw [k4]
            exact ⟨by show newOk st.kind st.key = true; rw [hk1.kind, hk1.key]; exact hok, by show MadeK st.kind st.key st.bats st.lines; rw [hk1.kind, hk1.key]; exact hmk, fun _ => ⟨k1, k2, Decidable.not_not.1 k3⟩, fun e => absurd e hz⟩
          · rw [k4]
            exact ⟨hSt.bats, hSt.lines, by show L1.length ≤ _; omega, hSt.key⟩
        · have hz := Decidable.not_not.1 (of_decide_eq_false hz)
          refine Br.intro (fun h => absurd hz (of_decide_eq_true h)) (fun _ => Br.intro (fun _ => ⟨by omega, ptrK_intro gA 0 hgA fun w G2 cx => ⟨p1, l1.length, c1, cell1 cx, ?_⟩⟩) (fun h => absurd hz (of_decide_eq_false h)))
          clear cx
          refine Br.intro (fun h => fun w G2 cx => bad (Ψ := fun M w => (Φ M w ∧ RkF q st M w) ∧ Elems M w d L1) (A := bufL p1 l1.length c1 d :: (RkO q st ++ [.buf pA kA cA cells 33 1])) (fun s hs => ?_) (fun M w h => h.1.1) (by simpa using cx)) (fun h => fun w G2 cx => ?_)
          · obtain ⟨e1, e2⟩ := hL1s s hs
            have h3 := hs.made.none (by omega)
            rw [h3] at e1
            rw [e1] at hL1l
            have := of_decide_eq_true h
            rw [List.length_nil] at hL1l
            omega
          · refine tail q st (fun M w => (Φ M w ∧ RkF q st M w) ∧ Elems M w d L1) [.buf pA kA cA cells 33 1] stX (fun M w h => h.1) hsb hq hI1 ⟨by rw [hk1.kind, hk1.key]; exact hok, by rw [hk1.kind, hk1.key]; exact hmk, fun h => absurd hk1.prep h, fun _ => hk1.aside⟩ hSt (by rw [hk1.kind]; exact hkd) (by rw [hk1.prep]; unfold I64; decide) (fun s hs => ?_) w G2 (Ctx.drop1 cx)
            obtain ⟨e1, e2⟩ := hL1s s hs
            have h3 := hs.made.none (by omega)
            rw [hst s hs]
            cases s
            simp only at e2 h3
            rw [h3, ← e2, hz]
  case' inl =>
    refine Br.intro (fun _ => Br.intro (fun h => by have := of_decide_eq_true h; omega) (fun _ => fun w G2 cx => Num01r_to (S := .buf pA kA cA cells 33 1 :: X0) (by omega) cx.swap ?_)) (fun h => by have := of_decide_eq_false h; omega)
    clear cx
    obtain ⟨z', hzz⟩ : ∃ z', z' = z := ⟨_, rfl⟩
    subst hzz
    obtain ⟨tgt, htgt⟩ : ∃ t : SkD → List LineD, t = SkD.lines := ⟨_, rfl⟩
    obtain ⟨rst, hrst⟩ : ∃ t : SkD → List UInt8, t = A4 := ⟨_, rfl⟩
    obtain ⟨X, hX⟩ : ∃ X, X0 = X := ⟨_, rfl⟩
    obtain ⟨ΦC, hC⟩ : ∃ X : PW, Φ1 = X := ⟨_, rfl⟩
    have hF : ∀ s, Gd l s → g = true ∧ (rdNat st3').1 = ((tgt s).length : Int) ∧ (rdNat st3').2 = (linesL (tgt s) ++ rst s, false) ∧ ∀ x ∈ tgt s, LineW x := fun s h => by
      obtain ⟨_, _, _, e⟩ := f3 s h
      have hs := h.size.2.2.1
      have h2 := nat_read (n := s.lines.length) (r := linesL s.lines ++ A4 s) (bad := false) (by omega)
      have e2 : A3 s = (natB (s.lines.length : Int)).data.toList ++ (linesL s.lines ++ A4 s) := by unfold A3 linesS; rw [List.append_assoc]
      rw [e, e2, h2, htgt, hrst]
      exact ⟨hg, rfl, rfl, h.w.lines⟩
    have hno := rdNat_ok hok3
    have hnl : (rdNat st3').2.1.length ≤ l.length := by
      have h := rdNat_len st3'
      omega
    have hnn := rdNat_nn st3'
    obtain ⟨n0, hn0⟩ : ∃ k, (rdNat st3').1 = k := ⟨_, rfl⟩
    obtain ⟨sl, hsl⟩ : ∃ s, (rdNat st3').2 = s := ⟨_, rfl⟩
    rw [hn0, hsl] at hF
    rw [hsl] at hno hnl
    rw [hn0] at hnn
    rw [hn0, hsl]
    obtain ⟨mm, hmm⟩ : ∃ m, m = 1 := ⟨_, rfl⟩
    have hkC : kA = cells.length := by rw [hkA, hcells]; rfl
    have hkB : kA ≤ 1 := by omega
    have stC : Stable ΦC := by rw [← hC]; exact hst1
    have next : ∀ (acc : List LineD) (p : Option Addr) (c : Nat) (ds : List Value) (g1 : Bool) (s' : RdS) (pA' : Option Addr) (cA' : Nat), RdOk s' → acc.length + s'.1.length ≤ l.length → (∀ s, Gd l s → g1 = true ∧ acc = (tgt s).map z0 ∧ s' = (rst s, false)) →
        INV pA' (kA + 1) cA' z' g1 (nI + 1) (.buf pA' (kA + 1) cA' (cells ++ [.slice p acc.length c]) 33 1 :: rq b s' :: (bufL p acc.length c ds :: X)) (fun M w => ΦC M w ∧ Elems M w ds acc) mm := fun acc p c ds g1 s' pA' cA' k1 k2 k3 =>
      (hINV _ _ _ _ _ _ _ _ _).2 (.inr (.inl ⟨cells ++ [Value.slice p acc.length c], acc, p, c, ds, s', by rw [hcells]; rfl, by omega, by omega, by rw [hkA, ← hX], by rw [← hC], hz, hmm, k1, k2, fun s h => by have := k3 s h; rw [htgt, hrst] at this; exact this⟩))
    have hmlt : mm < m := by omega
    rw [hX, hC]
    have unC : ∀ M w, ΦC M w → Φ M w := fun M w h => by rw [← hC] at h; exact (unB M w h).1.1
    clear hcells hX hC htgt hrst hsl hn0 hmm hg hz
  case' inr.inl =>
    refine Br.intro (fun _ => Br.intro (fun _ => fun w G2 cx => Int01r_to (S := .buf pA kA cA cells 33 1 :: (bufL p0 l0.length c0 d0 :: X0)) (by omega) cx.swap ?_) (fun h => by have := of_decide_eq_false h; omega)) (fun h => by have := of_decide_eq_false h; omega)
    clear cx
    have hok5 := rdInt_ok hok4
    have hl5 := rdInt_len s4
    have f5 : ∀ s, Gd l s → g = true ∧ l0 = s.lines.map z0 ∧ (rdInt s4).1 = s.prep ∧ (rdInt s4).2 = (A5 s, false) := fun s h => by
      obtain ⟨e1, e2, e3⟩ := f4 s h
      have h2 : rdInt (A4 s, false) = (s.prep, (A5 s, false)) := int_read (r := A5 s) (bad := false) h.w.prep
      rw [e3, h2]; exact ⟨e1, e2, rfl, rfl⟩
    have hzi := rdInt_i64 s4
    clear hz
    obtain ⟨z', hz'⟩ : ∃ k, (rdInt s4).1 = k := ⟨_, rfl⟩
    obtain ⟨s5, hs5⟩ : ∃ s, (rdInt s4).2 = s := ⟨_, rfl⟩
    rw [hz', hs5] at f5
    rw [hs5] at hok5 hl5
    rw [hz'] at hzi
    rw [hz', hs5]
    have hl5 : s5.1.length ≤ s4.1.length := hl5
    refine fun w G2 cx => Num01r_to (S := .buf pA kA cA cells 33 1 :: (bufL p0 l0.length c0 d0 :: X0)) (by omega) cx ?_
    clear cx
    obtain ⟨tgt, htgt⟩ : ∃ t : SkD → List LineD, t = SkD.aside := ⟨_, rfl⟩
    obtain ⟨rst, hrst⟩ : ∃ t : SkD → List UInt8, t = fun _ => [] := ⟨_, rfl⟩
    obtain ⟨X, hX⟩ : ∃ X, bufL p0 l0.length c0 d0 :: X0 = X := ⟨_, rfl⟩
    obtain ⟨ΦC, hC⟩ : ∃ X : PW, (fun M w => ΦB M w ∧ Elems M w d0 l0) = X := ⟨_, rfl⟩
    have hF : ∀ s, Gd l s → g = true ∧ (rdNat s5).1 = ((tgt s).length : Int) ∧ (rdNat s5).2 = (linesL (tgt s) ++ rst s, false) ∧ ∀ x ∈ tgt s, LineW x := fun s h => by
      obtain ⟨e1, _, _, e⟩ := f5 s h
      have hs := h.size.2.2.2
      have h2 := nat_read (n := s.aside.length) (r := linesL s.aside ++ []) (bad := false) (by omega)
      have e2 : A5 s = (natB (s.aside.length : Int)).data.toList ++ (linesL s.aside ++ []) := by unfold A5 linesS; rw [List.append_assoc]
      rw [e, e2, h2, htgt, hrst]
      exact ⟨e1, rfl, rfl, h.w.aside⟩
    have hno := rdNat_ok hok5
    have hnl : (rdNat s5).2.1.length ≤ l.length := by
      have h := rdNat_len s5
      omega
    have hnn := rdNat_nn s5
    obtain ⟨n0, hn0⟩ : ∃ k, (rdNat s5).1 = k := ⟨_, rfl⟩
    obtain ⟨sl, hsl⟩ : ∃ s, (rdNat s5).2 = s := ⟨_, rfl⟩
    rw [hn0, hsl] at hF
    rw [hsl] at hno hnl
    rw [hn0] at hnn
    rw [hn0, hsl]
    obtain ⟨mm, hmm⟩ : ∃ m, m = 0 := ⟨_, rfl⟩
    have hkC : kA = cells.length := by rw [hkA, hcells]; rfl
    have hkB : kA ≤ 1 := by omega
    have stC : Stable ΦC := by rw [← hC]; exact hst1
    have next : ∀ (acc : List LineD) (p : Option Addr) (c : Nat) (ds : List Value) (g1 : Bool) (s' : RdS) (pA' : Option Addr) (cA' : Nat), RdOk s' → acc.length + s'.1.length ≤ l.length → (∀ s, Gd l s → g1 = true ∧ acc = (tgt s).map z0 ∧ s' = (rst s, false)) →
        INV pA' (kA + 1) cA' z' g1 (nI + 1) (.buf pA' (kA + 1) cA' (cells ++ [.slice p acc.length c]) 33 1 :: rq b s' :: (bufL p acc.length c ds :: X)) (fun M w => ΦC M w ∧ Elems M w ds acc) mm := fun acc p c ds g1 s' pA' cA' k1 k2 k3 =>
      (hINV _ _ _ _ _ _ _ _ _).2 (.inr (.inr ⟨cells ++ [Value.slice p acc.length c], l0, p0, c0, d0, acc, p, c, ds, s', by rw [hcells]; rfl, by omega, by omega, by rw [hkA, ← hX], by rw [← hC], hmm, by omega, by omega, hzi, fun s h => by
        have h3 := k3 s h
        have h5 := f5 s h
        rw [htgt, hrst] at h3
        exact ⟨h3.1, h5.2.1, h3.2.1, h5.2.2.1, h3.2.2⟩⟩))
    have hmlt : mm < m := by omega
    rw [hX, hC]
    have unC : ∀ M w, ΦC M w → Φ M w := fun M w h => by rw [← hC] at h; exact (unB M w h.1).1.1
    clear hcells hX hC htgt hrst hsl hn0 hmm hs5 hz' f4 f5
  all_goals
    have stC2 : ∀ (ds : List Value) (acc : List LineD), Stable (fun M w => ΦC M w ∧ Elems M w ds acc) := fun ds acc => inferInstance
    refine exI_mk (fun g1 p77 k78 k79 iI R' Φ' k => ∃ (acc : List LineD) (ds : List Value) (s1 : RdS), iI = acc.length ∧ k78 = acc.length ∧ R' = bufL p77 acc.length k79 ds :: rq b s1 :: (.buf pA kA cA cells 33 1 :: X) ∧ Φ' = (fun M w => ΦC M w ∧ Elems M w ds acc) ∧ k = (n0 - acc.length).toNat ∧ (acc.length : Int) ≤ n0 ∧ RdOk s1 ∧ acc.length + s1.1.length ≤ l.length ∧ (∀ s, Gd l s → g1 = true ∧ n0 = ((tgt s).length : Int) ∧ acc = ((tgt s).take acc.length).map z0 ∧ s1 = (linesL ((tgt s).drop acc.length) ++ rst s, false)))
      ⟨⟨bufL none 0 0 [] :: rq b sl :: (.buf pA kA cA cells 33 1 :: X), fun M w => ΦC M w ∧ Elems M w [] ([] : List LineD), _, inferInstance, fun w G cx => (cx.nobuf 46 7).weak fun M w h => ⟨h, Elems.nil⟩, [], [], sl, rfl, rfl, rfl, rfl, rfl, by rw [List.length_nil]; omega, hno, by rw [List.length_nil]; omega, fun s h => by obtain ⟨e1, e2, e3, _⟩ := hF s h; exact ⟨e1, e2, rfl, e3⟩⟩, ?_⟩
    rintro g1 p77 k78 k79 iI R2 Φ2 k2 _ ⟨acc, ds, s1, rfl, rfl, rfl, rfl, rfl, han, hokS, hlS, hS⟩
    have fin : (∀ s, Gd l s → acc.length = (tgt s).length) → ∀ (A : List Own), A.Perm (bufL p77 acc.length k79 ds :: rq b s1 :: (.buf pA kA cA cells 33 1 :: X)) → ∀ (k : Nat) (w : World) (G2 : List Own), Ctx W w (.blk k [.slice p77 acc.length k79] 33 :: A ++ G2) (fun M w => ΦC M w ∧ Elems M w ds acc) →
        ∃ (p : Option Addr) (kk cc : Nat) (w' : World), Sem.run Tryz.prog (builtin Builtin.append #[72, 72] 72 #[false, false] #[.slice pA kA cA, .slice (some ⟨k, 0, none⟩) 1 1]) w = .ok (.value (.slice p kk cc)) w' ∧ ∃ (R' : List Own) (Φ' : PW), Stable Φ' ∧ Ctx W w' (R' ++ G2) Φ' ∧ I64 (nI + 1) ∧ ∃ (R3 : List Own) (Φ3 : PW) (k3 : Nat), Stable Φ3 ∧ (∀ (w : World) (G3 : List Own), Ctx W w (R' ++ G3) Φ' → Ctx W w (R3 ++ G3) Φ3) ∧ INV p kk cc z' (g1 && decide ((acc.length : Int) = n0)) (nI + 1) R3 Φ3 k3 ∧ k3 < m := fun hfull A hA k w G2 cx => by
      have hperm : (Own.blk k [.slice p77 acc.length k79] 33 :: A ++ G2).Perm (Own.blk k [.slice p77 acc.length k79] 33 :: .buf pA kA cA cells 33 1 :: (rq b s1 :: (bufL p77 acc.length k79 ds :: X) ++ G2)) := by
        refine List.Perm.cons _ ?_
        refine (hA.append_right G2).trans ?_
        refine (List.Perm.append_right G2 ?_ : ((bufL p77 acc.length k79 ds :: rq b s1 :: (.buf pA kA cA cells 33 1 :: X)) ++ G2).Perm ((.buf pA kA cA cells 33 1 :: rq b s1 :: (bufL p77 acc.length k79 ds :: X)) ++ G2))
        exact (List.reverse_perm [bufL p77 acc.length k79 ds, rq b s1, .buf pA kA cA cells 33 1]).symm.append_right X
      have c1 := cx.perm hperm
      obtain ⟨p', c', w', hrun, _, c2⟩ := Ctx.app1 (P := Tryz.prog) (ts := 72) (ty := 72) (kb := #[false, false]) (size := 1) (bytes := 24) c1 (by kernel_rfl) (by omega) rfl rfl (by omega) (by omega)
      refine ⟨p', _, c', w', hrun, .buf p' (kA + 1) c' (cells ++ [Value.slice p77 acc.length k79]) 33 1 :: rq b s1 :: (bufL p77 acc.length k79 ds :: X), _, stC2 ds acc, c2, by unfold I64; omega, _, _, mm, stC2 ds acc, fun w G cx => cx, next acc p77 k79 ds _ s1 p' c' hokS (by omega) (fun s h => ?_), hmlt⟩
      obtain ⟨e1, e2, e3, e4⟩ := hS s h
      have hf := hfull s h
      refine ⟨by rw [e1, e2, hf]; simp, ?_, ?_⟩
      · rw [hf, List.take_length] at e3; exact e3
      · rw [hf, List.drop_length] at e4; exact e4
    obtain ⟨SS, hSS⟩ : ∃ S, bufL p77 acc.length k79 ds :: (.buf pA kA cA cells 33 1 :: X) = S := ⟨_, rfl⟩
    refine Br.intro (fun hlt => fun w G2 cx => Left01_to (S := SS) (by rw [← hSS]; exact cx.swap) ?_) (fun hge => fun w G2 cx => fun k w G3 cx => fin (fun s h => by obtain ⟨_, e2, _⟩ := hS s h; have := of_decide_eq_false hge; omega) _ (List.Perm.refl _) k w G3 cx)
    have hlt := of_decide_eq_true hlt
    clear cx
    refine Br.intro (fun hpos => ?_) (fun hzr => fun w G2 cx => fun k w G3 cx => fin (fun s h => ?_) _ (by rw [← hSS]; exact List.Perm.swap _ _ _) k w G3 cx)
    rotate_left
    · obtain ⟨e1, e2, e3, e4⟩ := hS s h
      have hw := (hF s h).2.2.2
      have hge := linesL_ge (l := (tgt s).drop acc.length) fun x hx => hw x (List.mem_of_mem_drop hx)
      rw [List.length_drop] at hge
      have hzr := of_decide_eq_false hzr
      rw [e4, List.length_append] at hzr
      omega
    have hpos := of_decide_eq_true hpos
    have q0 : (rdInt s1).2.1.length < s1.1.length := rdInt_eat (by intro e; rw [e] at hpos; simp at hpos)
    have q1 := rdInt_len (rdInt s1).2
    obtain ⟨q2, q3⟩ := stepT_len (rdInt (rdInt s1).2).2
    have q4 := rdInt_len (stepT (rdInt (rdInt s1).2).2).2
    have q5 := rdInt_len (rdInt (stepT (rdInt (rdInt s1).2).2).2).2
    have q6 := rdInt_len (rdInt (rdInt (stepT (rdInt (rdInt s1).2).2).2).2).2
    have o1 := rdInt_ok hokS
    have o2 := rdInt_ok o1
    have o3 := stepT_ok o2
    have o6 := rdInt_ok (rdInt_ok (rdInt_ok o3))
    refine fun w G2 cx => Int01r_to (S := SS) (by omega) cx ?_
    clear cx
    refine fun _ w G2 cx => Int01r_to (S := SS) (by omega) cx ?_
    clear cx
    refine fun w G2 cx => Text01r_to (S := SS) o2 (by omega) cx ?_
    clear cx
    refine fun w G2 cx => ReadRow03u_to (R := rq b (stepT (rdInt (rdInt s1).2).2).2 :: SS) (stepT (rdInt (rdInt s1).2).2).1 (by omega) cx fun r rp rc ok hr y1 y2 y3 st6 => ?_
    clear cx
    refine fun w G2 cx => fun w G2 cx => Int01r_to (S := SS) (by omega) cx ?_
    clear cx
    refine fun w G2 cx => Int01r_to (S := SS) (by omega) cx ?_
    clear cx
    refine fun w G2 cx => Int01r_to (S := SS) (by omega) cx ?_
    clear cx
    refine fun kb w G2 cx => ?_
    obtain ⟨x, hx⟩ : ∃ x, (rdL (rdInt s1).2 0 (rdInt s1).1 r).1 = x := ⟨_, rfl⟩
    obtain ⟨s8, hs8⟩ : ∃ x, (rdL (rdInt s1).2 0 (rdInt s1).1 r).2 = x := ⟨_, rfl⟩
    have hxr : x.row = r := by rw [← hx, rdL_row]
    have hin : x.In := by rw [← hx]; exact rdL_in _ r (by unfold I64; decide) (rdInt_i64 _)
    have o8 : RdOk s8 := by rw [← hs8, rdL_snd]; exact o6
    have q8 : s8.1.length < s1.1.length := by
      rw [← hs8, rdL_snd]
      omega
    have cx1 : Ctx W w (.blk kb (x.cells rp rc) 46 :: .buf p77 acc.length k79 ds 46 7 :: (rq b s8 :: (.buf pA kA cA cells 33 1 :: X)) ++ G2) (fun M w => (ΦC M w ∧ Sl M w rp r) ∧ Elems M w ds acc) := by
      rw [← hSS] at cx
      rw [← hx, ← hs8, rdL_cells, rdL_snd]
      exact (cx.perm ((List.Perm.swap _ _ _).cons _)).weak fun M w h => ⟨⟨h.1.1, h.2⟩, h.1.2⟩
    obtain ⟨p', c', w', hrun, cx'⟩ := pushK (PS := fun M w => ΦC M w ∧ Sl M w rp r) (fun M w h => rep_line (by rw [hxr]; exact y1) y2 hin (by rw [hxr]; exact h.2)) (by omega) cx1
    have hal : (acc ++ [x]).length = acc.length + 1 := by rw [List.length_append, List.length_singleton]
    refine ⟨p', _, c', w', hrun, bufL p' (acc ++ [x]).length c' (ds ++ x.cells rp rc) :: rq b s8 :: (.buf pA kA cA cells 33 1 :: X), (fun M w => ΦC M w ∧ Elems M w (ds ++ x.cells rp rc) (acc ++ [x])), stC2 _ _, cx'.weak fun M w h => ⟨h.1.1, h.2⟩, by unfold I64; omega, _, _, (n0 - (acc ++ [x]).length).toNat, stC2 _ _, fun w G cx => cx, ⟨acc ++ [x], _, s8, by omega, rfl, rfl, rfl, rfl, by omega, o8, by omega, fun s h => ?_⟩, by omega⟩
    obtain ⟨e1, e2, e3, e4⟩ := hS s h
    have hw := (hF s h).2.2.2
    have hlt2 : acc.length < (tgt s).length := by omega
    rw [List.drop_eq_getElem_cons hlt2] at e4
    obtain ⟨r0, k1, k2⟩ := line_same (y := (tgt s)[acc.length]) (t := linesL ((tgt s).drop (acc.length + 1)) ++ rst s) (s1 := s1) (hw _ (List.getElem_mem hlt2)) (by rw [e4]; show (linesL ((tgt s)[acc.length] :: _) ++ rst s, false) = _; unfold linesL; rw [List.flatMap_cons, List.append_assoc])
    obtain ⟨k3, k4⟩ := hr r0 k1
    rw [← k4] at k2
    have k5 := Prod.ext_iff.1 k2
    have k6 : x = z0 (tgt s)[acc.length] := by rw [← hx]; exact k5.1
    have k7 : s8 = (linesL ((tgt s).drop (acc.length + 1)) ++ rst s, false) := by rw [← hs8]; exact k5.2
    refine ⟨by rw [e1, k3]; rfl, e2, ?_, by rw [hal]; exact k7⟩
    rw [hal, List.take_succ_eq_append_getElem hlt2, List.map_append, ← e3, k6]
    rfl
end
end Go.Proofs.YtjlfpkgjcffilaaGreatDoor
end

/-
  SinkBack, walked.
-/
section
set_option linter.unusedVariables false
set_option linter.unusedSimpArgs false
namespace Go.Proofs.YtjlfpkgjcffilaaGreatDoor
open Go.Vc


theorem batsK_made {kind : Int} {key : List Int} : ∀ (bs : List Int) (l : List LineD) (s s' : SkD) (r : List LineD), batsK bs l s = some (s', r) → (s.kind = kind ∧ s.key = key ∧ s.prep = 0 ∧ s.aside = [] ∧ MadeK kind key s.bats s.lines) → s'.kind = kind ∧ s'.key = key ∧ s'.prep = 0 ∧ s'.aside = [] ∧ MadeK kind key s'.bats s'.lines
  | [], l, s, s', r, h, hs => by
    have h : some (s, l) = some (s', r) := h
    cases h
    exact hs
  | b :: bs, l, s, s', r, h, hs => by
    have h : (if lookK s b (headK b l) = 0 then batsK bs (restK b l) (takeK s b (headK b l)) else none) = some (s', r) := h
    split at h
    · rename_i hz
      obtain ⟨h1, h2, h3, h4, h5⟩ := hs
      refine batsK_made bs _ _ s' r h ⟨h1, h2, h3, h4, .take h5 ?_⟩
      rw [← h1, ← h2, look_same]; exact hz
    · cases h
theorem readSk_good {l : List UInt8} {s : SkD} (h : readSk l = some s) : SkR s ∧ I64 s.kind ∧ I64 s.prep := by
  unfold readSk at h
  split at h
  · cases h
  rename_i hok
  have hok := eq_true_of_ne_false hok
  obtain ⟨d, _, h⟩ := Option.bind_eq_some_iff.1 h
  obtain ⟨f, _, h⟩ := Option.bind_eq_some_iff.1 h
  split at h
  · cases h
  obtain ⟨g, hg, h⟩ := Option.bind_eq_some_iff.1 h
  obtain ⟨gs, gr⟩ := g
  have hkd := rdInt_i64 (l, false)
  have hpz := rdInt_i64 d.2
  obtain ⟨h1, h2, h3, h4, h5⟩ := batsK_made _ _ _ _ _ hg ⟨rfl, rfl, rfl, rfl, .nil⟩
  unfold finK at h
  obtain ⟨y, hy⟩ : ∃ y, (if (rdInt d.2).1 = 0 then ((0 : Int), gs) else prepK gs (rdInt d.2).1 (shiftL (gs.lines.length : Int) f.1)) = y := ⟨_, rfl⟩
  simp only at h
  rw [hy] at h
  split at h
  · rename_i hc
    cases h
    obtain ⟨c1, c2, _⟩ := hc
    split at hy
    · rename_i hp
      subst hy
      exact ⟨⟨by show newOk gs.kind gs.key = true; rw [h1, h2]; exact hok, by show MadeK gs.kind gs.key _ _; rw [h1, h2]; exact h5, fun h => absurd h3 h, fun _ => h4⟩, by show I64 gs.kind; rw [h1]; exact hkd, by show I64 gs.prep; rw [h3]; unfold I64; decide⟩
    · rename_i hp
      rcases prep_cases gs (rdInt d.2).1 (shiftL (gs.lines.length : Int) f.1) with ⟨e, _⟩ | ⟨e1, e2, e3, e⟩
      · rw [hy] at e
        rw [e, h3] at c2
        exact absurd c2.symm hp
      · rw [hy] at e
        rw [e]
        exact ⟨⟨by show newOk gs.kind gs.key = true; rw [h1, h2]; exact hok, by show MadeK gs.kind gs.key _ _; rw [h1, h2]; exact h5, fun _ => ⟨e1, e2, Decidable.not_not.1 e3⟩, fun h => absurd h hp⟩, by show I64 gs.kind; rw [h1]; exact hkd, hpz⟩
  · cases h
theorem made_prep {s : SkD} (h : SkR s) : PrepI s := fun hp => by
  obtain ⟨h1, _, h3⟩ := h.prep hp
  exact ⟨h1, (look_ok (by rw [h3]; simp)).2.1⟩
theorem op_sz (s : SkD) (k b : Int) (L : List LineD) : (opK k s b L).2.lines.length + (opK k s b L).2.aside.length ≤ s.lines.length + s.aside.length + L.length := by
  have hP : (prepK s b L).2.lines.length + (prepK s b L).2.aside.length ≤ s.lines.length + s.aside.length + L.length := by
    rcases prep_cases s b L with ⟨e, _⟩ | ⟨_, _, _, e⟩ <;> rw [e]
    · omega
    · show s.lines.length + L.length ≤ _; omega
  unfold opK
  split
  · exact hP
  split
  · exact hP
  split
  · rcases comm_cases s b with ⟨e, _⟩ | ⟨_, _, _, _, e⟩ <;> rw [e]
    · omega
    · show (s.lines ++ s.aside).length + 0 ≤ _; rw [List.length_append]; omega
  split
  · rcases abort_cases s b with ⟨e, _⟩ | ⟨_, _, _, e⟩ <;> rw [e]
    · omega
    · show s.lines.length + 0 ≤ _; omega
  split
  · exact Nat.le_add_right _ _
  split
  · exact Nat.le_add_right _ _
  · rcases deliv_cases s b L with ⟨e, _⟩ | ⟨_, _, _, e⟩ <;> rw [e]
    · omega
    · show (s.lines ++ L).length + s.aside.length ≤ _; rw [List.length_append]; omega

/-- the state of a sink that was read, after some calls -/
structure BackS (s : SkD) (i : Nat) : Prop where
  inv : SkI s
  prep : PrepI s
  sz : s.lines.length + s.aside.length ≤ 1200 + 8 * i
  bats : s.bats.length ≤ 600 + i
  key : s.key.length ≤ 600
theorem BackS.size {s : SkD} {i : Nat} (h : BackS s i) : SkS s (1200 + 8 * i) :=
  ⟨by have := h.bats; omega, by have := h.sz; omega, by have := h.sz; omega, by have := h.key; omega⟩
theorem BackS.next {s : SkD} {i : Nat} (h : BackS s i) (k : Int) {b : Int} (hb : I64 b) {L : List LineD} (hL : L.length ≤ 8) : BackS (opK k s b L).2 (i + 1) := by
  obtain ⟨h1, h2⟩ := op_i h.inv h.prep hb k L
  have h3 := op_sz s k b L
  have h4 := op_bats s k b L
  have h5 := (op_kind s k b L).2
  have := h.sz
  have := h.bats
  exact ⟨h1, h2, by omega, by omega, by rw [h5]; exact h.key⟩

section
variable {Φ : PW} {W w : World} {R S G : List Own} {p : Option Addr} {cap : Nat}

set_option maxHeartbeats 8000000 in
theorem Back_pin [Stable Φ] [hN : Has Φ NumI] {l : List OpD} {g o : Nat} {cs : List (List Value)} (s : ByteArray) (hp : 0 < l.length → p = some ⟨g, o, none⟩) (hP : ∀ M w, Φ M w → Pin g o cs l M w) (hlen : l.length ≤ maxLen) : GivesIn Φ Tryz.prog F.erratalaw43_SinkBack #[.string s, .slice p l.length cap] (.bool true) := by
  have hT : Has Φ TabI := ⟨fun M w h => (hN.go M w h).1⟩
  obtain ⟨sl, rfl⟩ : ∃ sl, s = bs sl := ⟨s.data.toList, rfl⟩
  have hsz : (bs sl).size = sl.length := bs_size sl
  refine ⟨fun W0 w0 S0 c0 => GivesIn.go (gives_in (Berratalaw43_SinkBack_run (bs sl) p l.length cap) fun W R => ?_) W0 w0 S0 c0⟩
  have hc : ∀ j (hj : j < l.length), ∃ p c, cs.getD j [] = l[j].cells p c ∧ l[j].l.length ≤ c ∧ c ≤ maxLen ∧ I64 l[j].op ∧ I64 l[j].batch := fun j hj => pin_op (hP _ _ c0.phi) hj
  clear c0
  refine fun w G cx => small43_in.toB cx ?_
  clear cx
  rw [hsz]
  refine Br.intro (fun _ => fun w G cx => ⟨rfl, cx.left⟩) (fun h600 => fun w G cx => (few43_in (l := l) (n := 20) hp hP hlen).toB cx ?_)
  clear cx
  have h600 := of_decide_eq_false h600
  refine Br.intro (fun _ => fun w G cx => ⟨rfl, cx.left⟩) (fun hf => fun w G cx => Read_to hN.go sl (by omega) cx (fun hn => ?_) (fun q st hr hq hI hs0 st1 => ?_))
  · clear cx
    refine fun w G cx => Read43_to sl (by omega) cx (fun hg => ?_) (fun p' s' hg => ?_)
    · clear cx
      exact fun w G cx => Br.intro (fun h => by simp at h) (fun _ => Br.intro (fun _ => fun w G cx => ⟨rfl, cx.left⟩) (fun h => by cases h))
    · rw [hg.same (by omega)] at hn; cases hn
  clear cx
  have hf : fewO l 20 = true := by simpa using hf
  obtain ⟨hl20, hl8⟩ := fewO_out hf
  obtain ⟨hR, hkd, hpz⟩ := readSk_good hr
  refine fun w G cx => ?_
  have hW : SkW st := sk_w hI hkd hpz cx.phi.2
  have hGd : Gd sl st := ⟨hR, hW, readSk_is hr⟩
  have henc : skB st = bs sl := by rw [← hGd.enc]; rfl
  obtain ⟨z1, z2, z3, z4⟩ := hGd.size
  have hs : SkS st 600 := ⟨by omega, by omega, by omega, by omega⟩
  refine Read43_to (R := SkO q st ++ R) sl (by omega) cx (fun hg => absurd hGd (hg st)) (fun p' s' _ => ?_)
  clear cx
  refine fun w G cx => Br.intro (fun h => by simp at h) (fun _ => Br.intro (fun h => by cases h) (fun _ => fun w G cx => Copy_to (R := R) hq hs (by omega) cx fun q2 hq2 st2 => ?_))
  clear cx
  have hTq : Has (fun M w => (Φ M w ∧ SkF q st M w) ∧ SkF q2 st M w) TabI := ⟨fun M w h => hT.go M w h.1.1⟩
  have hFq : Has (fun M w => (Φ M w ∧ SkF q st M w) ∧ SkF q2 st M w) (SkF q st) := ⟨fun M w h => h.1.2⟩
  refine Br.intro (fun h => by cases h) (fun _ => fun w G cx => (Bytes_q (q := q) hq hW hs (by omega)).toS (R := SkO q2 st ++ R) (Ctx.swapU cx) ?_)
  clear cx
  refine Br.intro (fun h => absurd henc (of_decide_eq_true h)) (fun _ => ?_)
  have stI : ∀ (q1 : KP) (s1 : SkD), Stable (fun M w => (Φ M w ∧ SkF q2 st M w) ∧ SkF q1 s1 M w) := fun q1 s1 => instStableAnd (fun M w => Φ M w ∧ SkF q2 st M w) (SkF q1 s1)
  refine exI_mk (fun iI R' Φ' k => ∃ (i : Nat) (q1 : KP) (s1 : SkD), iI = i ∧ i ≤ l.length ∧ q1.sb = q.sb ∧ SkQ q1 s1 ∧ BackS s1 i ∧ R' = SkO q1 s1 ++ (SkO q2 st ++ R) ∧ Φ' = (fun M w => (Φ M w ∧ SkF q2 st M w) ∧ SkF q1 s1 M w) ∧ k = l.length - i)
    ⟨⟨SkO q st ++ (SkO q2 st ++ R), _, _, stI q st, fun w G cx => cx.weak fun M w h => ⟨⟨h.1.1, h.2⟩, h.1.2⟩, 0, q, st, rfl, Nat.zero_le _, rfl, hq, ⟨hI, made_prep hR, by omega, by omega, by omega⟩, rfl, rfl, rfl⟩, ?_⟩
  rintro iI R1 Φ1 k1 _ ⟨i, q1, s1, rfl, hi, hsb1, hq1, hB, rfl, rfl, rfl⟩
  have stX := stI q1 s1
  refine Br.intro (fun hlt => ?_) (fun hge => ?_)
  · have hlt : i < l.length := by have := of_decide_eq_true hlt; omega
    obtain ⟨r, rc, he, h1, h2, h3, h4⟩ := hc i hlt
    have hrow : ∀ {w : World} {S : List Own}, Ctx W w S (fun M w => (Φ M w ∧ SkF q2 st M w) ∧ SkF q1 s1 M w) → RowAt w g (o + ((i : Nat) : Int).toNat * 3) (l[i].cells r rc) := fun {w S} cx => by
      rw [Int.toNat_natCast]
      exact pino_rowAt (hP _ _ cx.phi.1.1) hlt he
    obtain ⟨L, hL⟩ : ∃ L, l[i].l = L := ⟨_, rfl⟩
    obtain ⟨b, hb⟩ : ∃ b, l[i].batch = b := ⟨_, rfl⟩
    obtain ⟨op, hop⟩ : ∃ op, l[i].op = op := ⟨_, rfl⟩
    have hL8 : L.length ≤ 8 := by rw [← hL]; exact hl8 _ (List.getElem_mem hlt)
    have hcells : l[i].cells r rc = [.int .i64 op, .int .i64 b, .slice r L.length rc] := by rw [← hL, ← hb, ← hop]
    rw [hcells] at hrow
    rw [hb] at h4
    have hSl : Has (fun M w => (Φ M w ∧ SkF q2 st M w) ∧ SkF q1 s1 M w) (fun M w => Sl M w r L) := ⟨fun M w h => by rw [← hL]; exact pino_sl (hP M w h.1.1) hlt he⟩
    have hFs : Has (fun M w => (Φ M w ∧ SkF q2 st M w) ∧ SkF q1 s1 M w) (SkF q1 s1) := ⟨fun M w h => h.2⟩
    refine ⟨by omega, ptrK_intro g o (hp (by omega)) fun w G cx => ⟨op, hrow cx 0 (by show 0 < 3; decide), andZ op 7, fun w => and_run op 7 w, ?_⟩⟩
    clear cx
    refine Br.intro (fun hk => ⟨by omega, ptrK_intro g o (hp (by omega)) fun w G cx => ⟨op, b, r, L.length, rc, hrow cx, fun w G cx => ?_⟩⟩) (fun hk => ⟨by unfold I64; omega, _, _, l.length - (i + 1), stX, fun w G cx => cx, ⟨i + 1, q1, s1, by omega, hlt, hsb1, hq1, ⟨hB.inv, hB.prep, by have := hB.sz; omega, by have := hB.bats; omega, hB.key⟩, rfl, rfl, rfl⟩, by omega⟩)
    have hk := of_decide_eq_true hk
    rw [← hsb1]
    refine Do_use (R := SkO q2 st ++ R) (op := op) (b := b) (L := L) (by omega) hq1 hB.inv hB.size (by omega) (by omega) cx fun q3 hsb3 hq3 st3 => ?_
    clear cx
    exact ⟨by unfold I64; omega, SkO q3 (opK (andZ op 7) s1 b L).2 ++ (SkO q2 st ++ R), _, l.length - (i + 1), stI _ _, fun w G cx => cx.weak fun M w h => ⟨h.1.1, h.2⟩, ⟨i + 1, q3, _, by omega, hlt, by rw [hsb3, hsb1], hq3, hB.next _ h4 hL8, rfl, rfl, rfl⟩, by omega⟩
  · have hT2 : Has (fun M w => (Φ M w ∧ SkF q2 st M w) ∧ SkF q1 s1 M w) TabI := ⟨fun M w h => hT.go M w h.1.1⟩
    have hF2 : Has (fun M w => (Φ M w ∧ SkF q2 st M w) ∧ SkF q1 s1 M w) (SkF q2 st) := ⟨fun M w h => h.1.2⟩
    refine Br.intro (fun _ => fun w G cx => (Bytes_q (q := q2) hq2 hW hs (by omega)).toS (R := SkO q1 s1 ++ R) (Ctx.swapU cx) ?_) (fun h => by cases h)
    clear cx
    refine fun w G cx => ⟨by rw [decide_eq_true henc], ?_⟩
    have c2 : Ctx W w ((SkO q2 st ++ SkO q1 s1) ++ (R ++ G)) Φ := (cx.weak (Ψ := Φ) fun M w h => h.1.1).re (by simp)
    exact (Ctx.right c2).left
theorem Back_in [Stable Φ] [hN : Has Φ NumI] {l : List OpD} (s : ByteArray) [hΦ : Has Φ (fun M w => Sl M w p l)] (hlen : l.length ≤ maxLen) : GivesIn Φ Tryz.prog F.erratalaw43_SinkBack #[.string s, .slice p l.length cap] (.bool true) :=
  .pinned hΦ.go fun b o cs hp => Back_pin s hp (fun M w h => h.2) hlen
end
end Go.Proofs.YtjlfpkgjcffilaaGreatDoor
end

/-
  From what a row lists as laid to the facts of the walk.
-/
section
set_option linter.unusedVariables false
set_option linter.unusedSimpArgs false
namespace Go.Proofs.YtjlfpkgjcffilaaGreatDoor
open Go.Vc Go.RowKit


theorem la_row (u : TypeId) (h : Tryz.prog.typeName? 3 u = some "*errors.errorString") : u = 177 :=
  typeName_ptr_named (nm := "errors.errorString") (by rw [show "*" ++ "errors.errorString" = "*errors.errorString" by decide]; kernel_rfl) (by kernel_rfl) (by decide) u (by rw [show "*" ++ "errors.errorString" = "*errors.errorString" by decide]; exact h)

theorem la_err {n : String} {text : List UInt8} {r : List (String × DataW Unit)} {W : World} {g : Nat} (h : laidMet Tryz.prog ((n, .iface "*errors.errorString" (.ptr (.agg [.lit (.string text)]))) :: r) W)
    (hg : Tryz.prog.globalNamed n = some g) (ht : (Tryz.prog.globals[g]?).map (·.type) = some 113) : ErrAt g [] W := by
  obtain ⟨a, s, hv, _⟩ := laid_sentinel h hg ht Tryz.underlying113 la_row Tryz.underlying177 Tryz.underlying179 rfl rfl Tryz.underlying9 (by kernel_rfl) (by kernel_rfl)
  exact ⟨by simp, _, by have h0 := World.var?_cell hg hv 0; simpa using h0, .inr ⟨_, _, rfl⟩⟩

theorem la_num {W : World} (h : laidMetH Tryz.prog Rows.sinkHidesRow.laid W) : NumI [] W := by
  rw [MakeChecks.laidMetH_plain Tryz.prog Rows.sinkHidesRow.laid W (by kernel_rfl)] at h
  have h2 := h.tail.tail
  exact ⟨Tab.start (Lib.tabIs_of_head (k := .u64) (zs := Lib.pow10Tab) (g := 3) (t := 171) (e := 157) (n := 20) (by kernel_rfl) (by kernel_rfl) (by kernel_rfl) (by kernel_rfl) (by kernel_rfl) (by kernel_rfl) h2),
    la_err h2.tail.tail (by kernel_rfl) (by kernel_rfl), la_err h2.tail (by kernel_rfl) (by kernel_rfl)⟩

end Go.Proofs.YtjlfpkgjcffilaaGreatDoor
end

section
set_option linter.unusedVariables false
set_option linter.unusedSimpArgs false
namespace Go.Proofs.YtjlfpkgjcffilaaGreatDoor
open Go.ChangeShapes Go.WideShapes Go.ChangeAt Go.RowKit Go.Vc


theorem df_own : ownKnob Tryz.prog.godebug = none := by kernel_rfl
theorem df_laid : laidOutB Tryz.prog = true := by kernel_rfl

theorem trodAll_n {H : Type} {enc : TypeId × Value → H} {P : Program} {w : World} {base : Nat} {spare : Nat → Bool} {held : Bool} {t0 t1 : TypeId} {args : Array Value} {ds : List (DataW H)} {ps : List MemPlace} (h : DataW.TrodAll enc P w base spare held [t0, t1] args.toList ds ps) :
    ∃ v0 v1 d0 d1 p0 p1, args = #[v0, v1] ∧ ds = [d0, d1] ∧ ps = p0 ++ p1 ∧ DataW.Trod enc P w base spare held t0 v0 d0 p0 ∧ DataW.Trod enc P w base spare held t1 v1 d1 p1 := by
  obtain ⟨v0, vs0, d0, ds0, p0, q0, hargs, rfl, rfl, h0, h⟩ := trodAll_cons h
  obtain ⟨v1, vs1, d1, ds1, p1, q1, rfl, rfl, rfl, h1, h⟩ := trodAll_cons h
  obtain ⟨rfl, rfl, rfl⟩ := trodAll_nil h
  exact ⟨v0, v1, d0, d1, p0, p1, by cases args; simp_all, rfl, by simp, h0, h1⟩

theorem door_met (os : Os) (args : Array Value) : laidMetH Tryz.prog Rows.sinkBackRow.laid ((World.doorLaid Tryz.prog 400 os).forCall (fun _ _ => 0) ⟨#[], args, []⟩).memory :=
  laidMetH_of_parts3 (fuel := 8) (laidMet_of_run' 8 (by kernel_rfl) (by kernel_rfl)) (by kernel_rfl) (by kernel_rfl)

set_option maxRecDepth 100000 in
theorem law_lifted (os : Os) (started : os.Started) (H : Type) (enc : TypeId × Value → H) :
    ReturnsInHanded {} Tryz.checked os 3 .any (fun w args => (Rows.sinkBackSpec.pre enc Tryz.prog Tryz.f3 Rows.sinkBackRow.domain false w args ∧ laidMetH Tryz.prog Rows.sinkBackRow.laid w) ∧ sizedMet enc Tryz.prog Tryz.f3 (OpenSpec.ofChange Rows.sinkBackSpec) false w args) (Rows.sinkBackSpec.post enc Tryz.prog Tryz.f3 false true false false) := by
  refine lawTrueLaid (C := Tryz.checked) (tb := 4) df_own started (by kernel_rfl) Tryz.func3 df_laid rfl ?_ rfl Tryz.underlying4 (by kernel_rfl)
    (ChangeSpec.witness_shaped (enc := enc) (C := Tryz.checked) (os := os) (X := fun w _ => laidMetH Tryz.prog Rows.sinkBackRow.laid w) false (World.doorLaid Tryz.prog 400 os) #[.string .empty, .slice none 0 0] 8 rfl (World.shaped_of_RefB (by kernel_rfl) (by kernel_rfl)) (by kernel_rfl) (by kernel_rfl) (by kernel_rfl) (door_met os _)) ?_
  · intro ds hd
    match ds, hd with
    | [_, _], _ => exact ⟨rfl, rfl, rfl⟩
  · intro W base args ds p hval0 hA0 _ hL
    have hval : ∀ (j : Nat) t v, Tryz.f3.params[j]? = some t → args[j]? = some v → Value.okWide Tryz.prog W .any base t v := hval0
    have hA : DataW.TrodAll enc Tryz.prog W 0 (fun _ => true) true Tryz.f3.params.toList args.toList ds p := hA0
    rw [Tryz.params3] at hA hval
    obtain ⟨v0, v1, d0, d1, p0, p1, rfl, rfl, rfl, h0, h1⟩ := trodAll_n hA
    obtain ⟨s, rfl, rfl, rfl, sw⟩ := Go.ChangeMaps.open_string Tryz.underlying9 (hval 0 9 v0 rfl rfl) h0
    obtain ⟨lp, lc, l, rfl, la, lb, s1⟩ := open_sl (α := OpD) 12 Tryz.underlying22 (hval 1 22 v1 rfl rfl) (by kernel_rfl) h1
    have st0 : Stable (fun M w => Sl M w lp l) := inferInstance
    have st1 : Stable (fun M w => NumI M w ∧ Sl M w lp l) := instStableAnd (fun M w => NumI M w) (fun M w => Sl M w lp l)
    have fin : GivesIn (fun M w => NumI M w ∧ Sl M w lp l) Tryz.prog 3 _ (.bool true) := Back_in (Φ := (fun M w => NumI M w ∧ Sl M w lp l)) (p := lp) (cap := lc) (l := l) (hN := ⟨fun _ _ h => h.1⟩) (hΦ := ⟨fun _ _ h => h.2⟩) s (by omega)
    exact fin.law ⟨la_num hL, s1⟩

theorem row_holds : Rows.SinkBackSaid :=
  OpenClaim.holds_of_wide 3 Tryz.f3 rfl rfl rfl rfl rfl rfl rfl ⟨rfl, rfl, rfl, rfl, rfl⟩ rfl rfl rfl rfl rfl (by kernel_rfl) Tryz.func3 (by kernel_rfl)
    (of_decide_eq_true (by kernel_rfl)) (by unfold Func.isWrapper; first | (rw [if_pos (by decide +kernel)]; kernel_rfl) | (rw [if_neg (by decide +kernel)]; exact ⟨rfl, rfl⟩))
    (fun os started H enc _ => law_lifted os started H enc)

theorem back_holds : Rows.SinkBackCardSaid :=
  Claim7.holds_tied_plain_at .later [] [.data, .data, .data, .sentinel, .sentinel] true Rows.sinkBackCard.stood.harness true
    row_holds (fun _ h => by cases h) (by kernel_rfl) (fun _ h => by cases h) sinkBack_row_tie rfl ⟨rfl, rfl⟩ (by kernel_rfl) rfl
    (fun f fn hf hfn => by
      obtain rfl : f = 3 := Option.some.inj ((show Tryz.prog.funcNamed Rows.sinkBackRow.func = some 3 by kernel_rfl).symm.trans hf) |>.symm
      obtain rfl : fn = Tryz.f3 := (Option.some.inj (Tryz.func3.symm.trans hfn)).symm
      exact ⟨by kernel_rfl, fun j t ht => by
        rw [Tryz.params3] at ht
        have hm := Array.mem_of_getElem? ht
        have hall : ((Tryz.f3.params.toList).all fun u => !Tryz.prog.wantsStandIn u) = true := by kernel_rfl
        rw [Tryz.params3] at hall
        exact (show Tryz.prog.wantsStandIn t = false by simpa using List.all_eq_true.1 hall t (by simpa using hm))⟩)
    (by kernel_rfl)

end Go.Proofs.YtjlfpkgjcffilaaGreatDoor
end

