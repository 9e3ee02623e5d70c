/-
  For every input erratalaw43.SinkOnce returns true, does not panic, comes to an end, and leaves what came in as it was; the variables that its row lists are as the program's text lays them.
  Conditions: none beyond the given statement's own (SinkOnceCardSaid).
-/
import Derived.Test.YtjlfpkgjcffilaaGreatDoorSO8
import Derived.Test.YtjlfpkgjcffilaaGreatDoorCards
import Derived.MakeChecks
import Derived.Stop.LaidErr
import Derived.Lib.LaidTab
import Derived.Test.YtjlfpkgjcffilaaGreatDoorTie
import Derived.SevenTiedAt
import Derived.LaidMore
import Derived.ChangeMaps5
import Derived.Test.YtjlfpkgjcffilaaGreatDoorRows

/-
  SinkOnce, walked.
-/
section
set_option linter.unusedVariables false
set_option linter.unusedSimpArgs false
namespace Go.Proofs.YtjlfpkgjcffilaaGreatDoor
open Go.Vc


theorem sl_no {M : List Nat} {w : World} {b o : Nat} {l : List LineD} (h : Sl M w (some ⟨b, o, none⟩) l) {i : Nat} (hi : i < l.length) : w.cell? ⟨b, o + i * 7, none⟩ = some (.int .i64 l[i].no) := by
  obtain ⟨b', o', cs, e, _, h3, h4⟩ := h i hi
  cases e
  obtain ⟨p', c', e', _, _, _, _⟩ := line_cells h4
  rw [e'] at h3
  exact h3 0 (by show 0 < 7; decide)

section
variable {Φ : PW} {W w : World} {R S G : List Own} {p : Option Addr} {cap : Nat}

set_option maxHeartbeats 8000000 in
theorem Once_pin [Stable Φ] [hN : Has Φ NumI] {l : List OpD} {g o : Nat} {cs : List (List Value)} {kind : Int} (hkd : I64 kind) (hp : 0 < l.length → p = some ⟨g, o, none⟩) (hP : ∀ M w, Φ M w → Pin g o cs l M w) (hlen : l.length ≤ maxLen) : GivesIn Φ Tryz.prog F.erratalaw43_SinkOnce #[.int .i64 kind, .slice p l.length cap] (.bool true) := by
  refine ⟨fun W0 w0 S0 c0 => GivesIn.go (gives_in (Berratalaw43_SinkOnce_run kind p l.length cap) fun W R => ?_) W0 w0 S0 c0⟩
  have hc : ∀ j (hj : j < l.length), ∃ p c, cs.getD j [] = l[j].cells p c ∧ l[j].l.length ≤ c ∧ c ≤ maxLen ∧ I64 l[j].op ∧ I64 l[j].batch := fun j hj => pin_op (hP _ _ c0.phi) hj
  clear c0
  refine fun w G cx => small43_in.toB cx ?_
  clear cx
  have hz : ∀ Ψ : PW, Has Ψ (fun M w => Sl M w none ([] : List Int)) := fun Ψ => ⟨fun M w _ => nilZ⟩
  refine fun w G cx => New_to (hΦ := hz _) (key := []) (kind := kind) (by decide) cx (fun h => ?_) fun q0 hok hq0 st0 => ?_
  · clear cx
    refine fun w G cx => (few43_in (l := l) (n := 80) hp hP hlen).toB cx ?_
    clear cx
    exact Br.intro (fun h => fun w G cx => ⟨rfl, cx.left⟩) (fun h => Br.intro (fun _ => fun w G cx => ⟨rfl, cx.left⟩) (fun h => by cases h))
  clear cx
  refine fun w G cx => (few43_in (l := l) (n := 80) hp (fun M w h => hP M w h.1) hlen).toB cx ?_
  clear cx
  refine Br.intro (fun h => fun w G cx => ⟨rfl, Ctx.left (Ctx.right (S := SkO q0 (newK kind [])) ((cx.fst).re (List.append_assoc _ _ _)))⟩) (fun hf => ?_)
  have hf : fewO l 80 = true := by simpa using hf
  obtain ⟨hl80, hl8⟩ := fewO_out hf
  refine Br.intro (fun h => by cases h) (fun _ => ?_)
  obtain ⟨INV, hINV⟩ : ∃ I : Option Addr → Int → List Own → PW → Nat → Prop, ∀ pt iI R' Φ' k, I pt iI R' Φ' k ↔ ∃ (i : Nat) (q : KP) (st : SkD), iI = i ∧ i ≤ l.length ∧ pt = some ⟨q.sb, 0, none⟩ ∧ SkQ q st ∧ OnceI kind [] st i ∧ R' = SkO q st ++ R ∧ Φ' = (fun M w => Φ M w ∧ SkF q st M w) ∧ k = l.length - i := ⟨_, fun _ _ _ _ _ => Iff.rfl⟩
  refine exI_mk INV ⟨⟨SkO q0 (newK kind []) ++ R, (fun M w => Φ M w ∧ SkF q0 (newK kind []) M w), l.length - 0, inferInstance, fun w G cx => cx, (hINV _ _ _ _ _).2 ⟨0, q0, newK kind [], rfl, Nat.zero_le _, rfl, hq0, once0 hok (by show 0 ≤ 20; omega), rfl, rfl, rfl⟩⟩, ?_⟩
  intro pt iI R1 Φ1 k1 hst1 hinv
  obtain ⟨i, q, st, rfl, hi, rfl, hq, hH, rfl, rfl, rfl⟩ := (hINV _ _ _ _ _).1 hinv
  clear hinv
  have hi80 : i ≤ 80 := by omega
  have hn : 8 * i + 1 ≤ 400000 := by omega
  refine Br.intro (fun hlt => ?_) (fun hge => fun w G cx => ⟨rfl, Ctx.left (Ctx.right (S := SkO q st) ((cx.fst).re (List.append_assoc _ _ _)))⟩)
  have hlt : i < l.length := by have := of_decide_eq_true hlt; omega
  obtain ⟨r, rc, he, h1, h2, h3, h4⟩ := hc i hlt
  have hrow : ∀ {w : World} {S : List Own} {Ψ : PW} [Has Ψ Φ], Ctx W w S Ψ → RowAt w g (o + ((i : Nat) : Int).toNat * 3) (l[i].cells r rc) := fun {w S Ψ} _ cx => by
    rw [Int.toNat_natCast]
    exact pino_rowAt (hP _ _ (Ctx.has (Ψ := Φ) cx).phi) hlt he
  obtain ⟨L, hL⟩ : ∃ L, l[i].l = L := ⟨_, rfl⟩
  obtain ⟨b, hb⟩ : ∃ b, l[i].batch = b := ⟨_, rfl⟩
  obtain ⟨op, hop⟩ : ∃ op, l[i].op = op := ⟨_, rfl⟩
  have hL8 : L.length ≤ 8 := by rw [← hL]; exact hl8 _ (List.getElem_mem hlt)
  have hcells : l[i].cells r rc = [.int .i64 op, .int .i64 b, .slice r L.length rc] := by rw [← hL, ← hb, ← hop]
  rw [hcells] at hrow
  rw [hb] at h4
  have hSl : Has Φ (fun M w => Sl M w r L) := ⟨fun M w h => by rw [← hL]; exact pino_sl (hP M w h) hlt he⟩
  clear hc
  refine fun w G cx => (List_sl hq hH.inv hH.size hn).tot (R := R) cx fun p3 c3 e1 e2 e3 st2 => ?_
  clear cx
  refine fun w G cx => (Last_q hq).toI cx ?_
  clear cx
  refine ⟨by omega, ptrK_intro g o (hp (by omega)) fun w G cx => ⟨op, b, r, L.length, rc, hrow cx, fun w G cx => ?_⟩⟩
  have b1 := hH.bats
  have b2 := hH.lines
  have b3 := hH.aside
  have b4 : st.key.length = 0 := by rw [hH.key]; rfl
  refine DoAll_use (R := R) (op := op) (b := b) (L := L) hq hH.inv hH.made (by rw [hH.kind]; exact hkd) hH.prepZ hH.size hn (by omega) (by omega) cx fun q2 hq2 st3 => ?_
  clear cx
  obtain ⟨k, hk⟩ : ∃ k, andZ op 7 = k := ⟨_, rfl⟩
  rw [hk] at hq2 st3 ⊢
  have hO := op_o hH k h4 hL8
  have hG := op_grow hH.made k b L
  obtain ⟨m, s2, hm⟩ : ∃ m s2, opK k st b L = (m, s2) := ⟨_, _, rfl⟩
  rw [hm] at hq2 st3 hO hG ⊢
  have hq2 : SkQ q2 s2 := hq2
  have hO : OnceI kind [] s2 (i + 1) := hO
  have st3 : Stable (fun M w => ((Φ M w ∧ SkF q st M w) ∧ Sl M w p3 st.lines) ∧ SkF q2 s2 M w) := st3
  obtain ⟨LL, hgl, hgl2, hgl3, hgl4, _⟩ := hG
  have hgl : s2.lines = st.lines ++ LL := hgl
  have hgl2 : lastK st ≤ lastK s2 := hgl2
  have hgl3 : lastK s2 = lastK st → LL = [] := hgl3
  have hgl4 : ∀ x ∈ LL, x.batch = lastK s2 := hgl4
  have hll : s2.lines.length = st.lines.length + LL.length := by rw [hgl, List.length_append]
  have hn2 : 8 * (i + 1) + 1 ≤ 400000 := by omega
  have b5 := hO.lines
  have hnum := made_num hO.made.made
  obtain ⟨ma, mi, mo⟩ := made_all hO.made.made
  refine Br.intro (fun h => by cases h) (fun _ => ?_)
  refine fun w G cx => (List_sl hq2 hO.inv hO.size hn2).tot (R := R) cx fun p5 c5 f1 f2 f3 st4 => ?_
  clear cx
  refine Br.intro (fun h => by have := of_decide_eq_true h; omega) (fun _ => fun w G cx => LinesN_q.toI cx ?_)
  clear cx
  refine Br.intro (fun h => absurd rfl (of_decide_eq_true h)) (fun _ => fun w G cx => (Last_q hq2).toI cx ?_)
  clear cx
  have hjn : ((st.lines.length : Nat) : Int).toNat = (s2.lines.take st.lines.length).length := by rw [Int.toNat_natCast, List.length_take]; omega
  refine Br.intro (fun h => by have := of_decide_eq_true h; omega) (fun _ => ⟨by omega, fun w G cx => ?_⟩)
  have htk : s2.lines.take st.lines.length = st.lines := by rw [hgl, List.take_left]
  have hLA : Has (fun M w => ((((Φ M w ∧ SkF q st M w) ∧ Sl M w p3 st.lines) ∧ SkF q2 s2 M w) ∧ Sl M w p5 s2.lines)) (fun M w => Sl M w (subPtr p5 7 0 c5) (s2.lines.take st.lines.length)) := ⟨fun M w h => by rw [subPtr_z]; exact sl_take h.2 _⟩
  have hrw : ∀ x ∈ s2.lines.take st.lines.length, x.row.length ≤ 1000000 := fun x hx => by have := right_len (hO.inv.row x (List.mem_of_mem_take hx)); omega
  rw [hjn]
  refine (SameLines_in (a := s2.lines.take st.lines.length) (b := st.lines) (by rw [← hjn]; omega) hrw).toB cx ?_
  clear cx
  rw [decide_eq_true htk]
  refine Br.intro (fun h => by cases h) (fun _ => fun w G cx => (Last_q hq2).toI cx ?_)
  clear cx
  have nextO : I64 ((i : Int) + 1) ∧ ∃ R' Φ' k', Stable Φ' ∧ (∀ (w : World) (G : List Own), Ctx W w ((SkO q2 s2 ++ R) ++ G) (fun M w => ((((Φ M w ∧ SkF q st M w) ∧ Sl M w p3 st.lines) ∧ SkF q2 s2 M w) ∧ Sl M w p5 s2.lines)) → Ctx W w (R' ++ G) Φ') ∧ INV (some ⟨q2.sb, 0, none⟩) ((i : Int) + 1) R' Φ' k' ∧ k' < l.length - i :=
    ⟨by unfold I64; omega, SkO q2 s2 ++ R, (fun M w => Φ M w ∧ SkF q2 s2 M w), l.length - (i + 1), inferInstance, fun w G cx => cx.weak fun M w h => ⟨h.1.1.1.1, h.1.2⟩, (hINV _ _ _ _ _).2 ⟨i + 1, q2, s2, by omega, hlt, rfl, hq2, hO, rfl, rfl, rfl⟩, by omega⟩
  have hasl : 0 < lastK s2 → hasK s2 (lastK s2) = true := fun h => by
    unfold hasK
    have h0 : s2.bats.length ≠ 0 := fun h0 => by
      unfold lastK at h
      rw [List.eq_nil_of_length_eq_zero h0] at h
      exact absurd h (by decide)
    rw [lastK_at h0]
    exact decide_eq_true (List.getElem_mem _)
  have has0 : hasK s2 0 = false := decide_eq_false fun h => by have := (hO.inv.pos 0 h).1; omega
  have hprep : 0 < s2.prep → ¬ s2.prep ≤ lastK s2 := fun h => by have := (hO.prep (by omega)).2; omega
  refine Br.intro (fun h => Br.intro (fun h2 => ?_) (fun _ => ?_)) (fun _ => ?_)
  · have := of_decide_eq_true h2
    have := hgl3 (of_decide_eq_true h)
    rw [this] at hll
    rw [List.length_nil] at hll
    omega
  all_goals
    refine exI_mk (fun nI R' Φ' k => ∃ j : Nat, nI = j ∧ j ≤ s2.lines.length ∧ R' = SkO q2 s2 ++ R ∧ Φ' = (fun M w => ((((Φ M w ∧ SkF q st M w) ∧ Sl M w p3 st.lines) ∧ SkF q2 s2 M w) ∧ Sl M w p5 s2.lines)) ∧ k = s2.lines.length - j) ⟨⟨_, _, _, st4, fun w G cx => cx, 0, rfl, Nat.zero_le _, rfl, rfl, rfl⟩, ?_⟩
    rintro nI R2 Φ2 k2 _ ⟨j, rfl, hj, rfl, rfl, rfl⟩
    refine Br.intro (fun hlt2 => ?_) (fun hge2 => ?_)
    · have hlt2 : j < s2.lines.length := by have := of_decide_eq_true hlt2; omega
      obtain ⟨lb, lo, hlp⟩ := f3 (by omega)
      have hno := num_at hlt2 hnum
      have cel : ∀ {w : World} {G : List Own}, Ctx W w ((SkO q2 s2 ++ R) ++ G) (fun M w => ((((Φ M w ∧ SkF q st M w) ∧ Sl M w p3 st.lines) ∧ SkF q2 s2 M w) ∧ Sl M w p5 s2.lines)) → ∀ a (ha : a < s2.lines.length), w.cell? ⟨lb, lo + a * 7 + 1, none⟩ = some (.int .i64 s2.lines[a].batch) ∧ w.cell? ⟨lb, lo + a * 7, none⟩ = some (.int .i64 s2.lines[a].no) := fun {w G} cx a ha => by
        have h := cx.phi.2
        rw [hlp] at h
        exact ⟨sl_batch h ha, sl_no h ha⟩
      have hin : hasK s2 s2.lines[j].batch = true := decide_eq_true (mi _ (List.getElem_mem hlt2))
      have next : I64 ((j : Int) + 1) ∧ ∃ R' Φ' k', Stable Φ' ∧ (∀ (w : World) (G : List Own), Ctx W w ((SkO q2 s2 ++ R) ++ G) (fun M w => ((((Φ M w ∧ SkF q st M w) ∧ Sl M w p3 st.lines) ∧ SkF q2 s2 M w) ∧ Sl M w p5 s2.lines)) → Ctx W w (R' ++ G) Φ') ∧ (∃ j' : Nat, (j : Int) + 1 = j' ∧ j' ≤ s2.lines.length ∧ R' = SkO q2 s2 ++ R ∧ Φ' = (fun M w => ((((Φ M w ∧ SkF q st M w) ∧ Sl M w p3 st.lines) ∧ SkF q2 s2 M w) ∧ Sl M w p5 s2.lines)) ∧ k' = s2.lines.length - j') ∧ k' < s2.lines.length - j :=
        ⟨by unfold I64; omega, _, _, s2.lines.length - (j + 1), st4, fun w G cx => cx, ⟨j + 1, by omega, hlt2, rfl, rfl, rfl⟩, by omega⟩
      have hnew : st.lines.length ≤ j → s2.lines[j].batch = lastK s2 := fun h => by
        have e : s2.lines[j]? = LL[j - st.lines.length]? := by rw [hgl, List.getElem?_append_right h]
        rw [List.getElem?_eq_getElem hlt2, List.getElem?_eq_getElem (by omega)] at e
        rw [Option.some.inj e]
        exact hgl4 _ (List.getElem_mem _)
      refine ⟨_, _, st4, fun w G cx => cx, by omega, ptrK_intro lb lo hlp ⟨by unfold I64; omega, s2.lines[j].no, fun w G cx => ⟨_, by rw [Int.toNat_natCast]; exact (cel cx j hlt2).2, rfl⟩, Br.intro (fun h => absurd (show s2.lines[j].no = (j : Int) + 1 by omega) (of_decide_eq_true h)) (fun _ => ⟨by omega, ptrK_intro lb lo hlp ⟨s2.lines[j].batch, fun w G cx => ⟨_, by rw [Int.toNat_natCast]; exact (cel cx j hlt2).1, rfl⟩, fun w G cx => (Has_q hq2 hO.inv hO.size hn2).toB cx ⟨_, _, st4, fun w G cx => cx, ?_⟩⟩⟩)⟩⟩
      clear cx
      rw [hin]
      refine Br.intro (fun h => by cases h) (fun _ => ?_)
      refine Br.intro (fun hj0 => ⟨by unfold I64; omega, by omega, ptrK_intro lb lo hlp ⟨by omega, ptrK_intro lb lo hlp ⟨s2.lines[j].batch, fun w G cx => ⟨_, by rw [Int.toNat_natCast]; exact (cel cx j hlt2).1, rfl⟩, s2.lines[j - 1].batch, fun w G cx => ⟨_, by rw [show (max ((j : Int) - 1) 0).toNat = j - 1 by omega]; exact (cel cx (j - 1) (by omega)).1, rfl⟩, Br.intro (fun h => ?_) (fun _ => ?_)⟩⟩⟩) (fun _ => ?_)
      · have h := of_decide_eq_true h
        have hj0 := of_decide_eq_true hj0
        have := List.pairwise_iff_getElem.1 mo (j - 1) j (by omega) hlt2 (by omega)
        omega
      all_goals
        refine Br.intro (fun hk => ⟨by omega, ptrK_intro lb lo hlp ⟨s2.lines[j].batch, fun w G cx => ⟨_, by rw [Int.toNat_natCast]; exact (cel cx j hlt2).1, rfl⟩, fun w G cx => (Last_q hq2).toI cx ⟨fun w G cx => cx, Br.intro (fun h => absurd (hnew (by have := of_decide_eq_true hk; omega)) (of_decide_eq_true h)) (fun _ => next)⟩⟩⟩) (fun _ => next)
    · refine fun w G cx => (Last_q hq2).toI cx ?_
      clear cx
      refine Br.intro (fun hl => fun w G cx => (Last_q hq2).toI cx fun w G cx => (Has_q hq2 hO.inv hO.size hn2).toB cx (Br.intro (fun h => by rw [hasl (of_decide_eq_true hl)] at h; cases h) (fun _ => ?_))) (fun _ => ?_)
      all_goals
        refine fun w G cx => (Has_q (b := 0) hq2 hO.inv hO.size hn2).toB cx (Br.intro (fun h => by rw [has0] at h; cases h) (fun _ => fun w G cx => Prepared_q.toI cx (Br.intro (fun h6 => fun w G cx => Prepared_q.toI cx fun w G cx => (Last_q hq2).toI cx (Br.intro (fun h7 => absurd (of_decide_eq_true h7) (hprep (of_decide_eq_true h6))) (fun _ => nextO))) (fun _ => nextO))))
theorem Once_in [Stable Φ] [hN : Has Φ NumI] {l : List OpD} {kind : Int} (hkd : I64 kind) [hΦ : Has Φ (fun M w => Sl M w p l)] (hlen : l.length ≤ maxLen) : GivesIn Φ Tryz.prog F.erratalaw43_SinkOnce #[.int .i64 kind, .slice p l.length cap] (.bool true) :=
  .pinned hΦ.go fun b o cs hp => Once_pin hkd hp (fun M w h => h.2) hlen
end
end Go.Proofs.YtjlfpkgjcffilaaGreatDoor
end

/-
  From what a row lists as laid to the facts of the walk.
-/
section
set_option linter.unusedVariables false
set_option linter.unusedSimpArgs false
namespace Go.Proofs.YtjlfpkgjcffilaaGreatDoor
open Go.Vc Go.RowKit


theorem la_row (u : TypeId) (h : Tryz.prog.typeName? 3 u = some "*errors.errorString") : u = 177 :=
  typeName_ptr_named (nm := "errors.errorString") (by rw [show "*" ++ "errors.errorString" = "*errors.errorString" by decide]; kernel_rfl) (by kernel_rfl) (by decide) u (by rw [show "*" ++ "errors.errorString" = "*errors.errorString" by decide]; exact h)

theorem la_err {n : String} {text : List UInt8} {r : List (String × DataW Unit)} {W : World} {g : Nat} (h : laidMet Tryz.prog ((n, .iface "*errors.errorString" (.ptr (.agg [.lit (.string text)]))) :: r) W)
    (hg : Tryz.prog.globalNamed n = some g) (ht : (Tryz.prog.globals[g]?).map (·.type) = some 113) : ErrAt g [] W := by
  obtain ⟨a, s, hv, _⟩ := laid_sentinel h hg ht Tryz.underlying113 la_row Tryz.underlying177 Tryz.underlying179 rfl rfl Tryz.underlying9 (by kernel_rfl) (by kernel_rfl)
  exact ⟨by simp, _, by have h0 := World.var?_cell hg hv 0; simpa using h0, .inr ⟨_, _, rfl⟩⟩

theorem la_num {W : World} (h : laidMetH Tryz.prog Rows.sinkHidesRow.laid W) : NumI [] W := by
  rw [MakeChecks.laidMetH_plain Tryz.prog Rows.sinkHidesRow.laid W (by kernel_rfl)] at h
  have h2 := h.tail.tail
  exact ⟨Tab.start (Lib.tabIs_of_head (k := .u64) (zs := Lib.pow10Tab) (g := 3) (t := 171) (e := 157) (n := 20) (by kernel_rfl) (by kernel_rfl) (by kernel_rfl) (by kernel_rfl) (by kernel_rfl) (by kernel_rfl) h2),
    la_err h2.tail.tail (by kernel_rfl) (by kernel_rfl), la_err h2.tail (by kernel_rfl) (by kernel_rfl)⟩

end Go.Proofs.YtjlfpkgjcffilaaGreatDoor
end

section
set_option linter.unusedVariables false
set_option linter.unusedSimpArgs false
namespace Go.Proofs.YtjlfpkgjcffilaaGreatDoor
open Go.ChangeShapes Go.WideShapes Go.ChangeAt Go.RowKit Go.Vc


theorem df_own : ownKnob Tryz.prog.godebug = none := by kernel_rfl
theorem df_laid : laidOutB Tryz.prog = true := by kernel_rfl

theorem wf_I64 {x : Int} (h : (Lit.int .i64 x).wf = true) : I64 x := by
  simp [Lit.wf, IntKind.min, IntKind.max, IntKind.signed, IntKind.bits] at h
  exact h

theorem trodAll_n {H : Type} {enc : TypeId × Value → H} {P : Program} {w : World} {base : Nat} {spare : Nat → Bool} {held : Bool} {t0 t1 : TypeId} {args : Array Value} {ds : List (DataW H)} {ps : List MemPlace} (h : DataW.TrodAll enc P w base spare held [t0, t1] args.toList ds ps) :
    ∃ v0 v1 d0 d1 p0 p1, args = #[v0, v1] ∧ ds = [d0, d1] ∧ ps = p0 ++ p1 ∧ DataW.Trod enc P w base spare held t0 v0 d0 p0 ∧ DataW.Trod enc P w base spare held t1 v1 d1 p1 := by
  obtain ⟨v0, vs0, d0, ds0, p0, q0, hargs, rfl, rfl, h0, h⟩ := trodAll_cons h
  obtain ⟨v1, vs1, d1, ds1, p1, q1, rfl, rfl, rfl, h1, h⟩ := trodAll_cons h
  obtain ⟨rfl, rfl, rfl⟩ := trodAll_nil h
  exact ⟨v0, v1, d0, d1, p0, p1, by cases args; simp_all, rfl, by simp, h0, h1⟩

theorem door_met (os : Os) (args : Array Value) : laidMetH Tryz.prog Rows.sinkOnceRow.laid ((World.doorLaid Tryz.prog 400 os).forCall (fun _ _ => 0) ⟨#[], args, []⟩).memory :=
  laidMetH_of_parts3 (fuel := 8) (laidMet_of_run' 8 (by kernel_rfl) (by kernel_rfl)) (by kernel_rfl) (by kernel_rfl)

set_option maxRecDepth 100000 in
theorem law_lifted (os : Os) (started : os.Started) (H : Type) (enc : TypeId × Value → H) :
    ReturnsInHanded {} Tryz.checked os 4 .any (fun w args => (Rows.sinkOnceSpec.pre enc Tryz.prog Tryz.f4 Rows.sinkOnceRow.domain false w args ∧ laidMetH Tryz.prog Rows.sinkOnceRow.laid w) ∧ sizedMet enc Tryz.prog Tryz.f4 (OpenSpec.ofChange Rows.sinkOnceSpec) false w args) (Rows.sinkOnceSpec.post enc Tryz.prog Tryz.f4 false true false false) := by
  refine lawTrueLaid (C := Tryz.checked) (tb := 4) df_own started (by kernel_rfl) Tryz.func4 df_laid rfl ?_ rfl Tryz.underlying4 (by kernel_rfl)
    (ChangeSpec.witness_shaped (enc := enc) (C := Tryz.checked) (os := os) (X := fun w _ => laidMetH Tryz.prog Rows.sinkOnceRow.laid w) false (World.doorLaid Tryz.prog 400 os) #[.int .i64 0, .slice none 0 0] 8 rfl (World.shaped_of_RefB (by kernel_rfl) (by kernel_rfl)) (by kernel_rfl) (by kernel_rfl) (by kernel_rfl) (door_met os _)) ?_
  · intro ds hd
    match ds, hd with
    | [_, _], _ => exact ⟨rfl, rfl, rfl⟩
  · intro W base args ds p hval0 hA0 _ hL
    have hval : ∀ (j : Nat) t v, Tryz.f4.params[j]? = some t → args[j]? = some v → Value.okWide Tryz.prog W .any base t v := hval0
    have hA : DataW.TrodAll enc Tryz.prog W 0 (fun _ => true) true Tryz.f4.params.toList args.toList ds p := hA0
    rw [Tryz.params4] at hA hval
    obtain ⟨v0, v1, d0, d1, p0, p1, rfl, rfl, rfl, h0, h1⟩ := trodAll_n hA
    obtain ⟨kind, rfl, rfl, rfl, kindw⟩ := open_int Tryz.underlying3 (hval 0 3 v0 rfl rfl) h0
    obtain ⟨lp, lc, l, rfl, la, lb, s1⟩ := open_sl (α := OpD) 12 Tryz.underlying22 (hval 1 22 v1 rfl rfl) (by kernel_rfl) h1
    have st0 : Stable (fun M w => Sl M w lp l) := inferInstance
    have st1 : Stable (fun M w => NumI M w ∧ Sl M w lp l) := instStableAnd (fun M w => NumI M w) (fun M w => Sl M w lp l)
    have fin : GivesIn (fun M w => NumI M w ∧ Sl M w lp l) Tryz.prog 4 _ (.bool true) := Once_in (Φ := (fun M w => NumI M w ∧ Sl M w lp l)) (p := lp) (cap := lc) (l := l) (hN := ⟨fun _ _ h => h.1⟩) (hΦ := ⟨fun _ _ h => h.2⟩) (wf_I64 kindw) (by omega)
    exact fin.law ⟨la_num hL, s1⟩

theorem row_holds : Rows.SinkOnceSaid :=
  OpenClaim.holds_of_wide 4 Tryz.f4 rfl rfl rfl rfl rfl rfl rfl ⟨rfl, rfl, rfl, rfl, rfl⟩ rfl rfl rfl rfl rfl (by kernel_rfl) Tryz.func4 (by kernel_rfl)
    (of_decide_eq_true (by kernel_rfl)) (by unfold Func.isWrapper; first | (rw [if_pos (by decide +kernel)]; kernel_rfl) | (rw [if_neg (by decide +kernel)]; exact ⟨rfl, rfl⟩))
    (fun os started H enc _ => law_lifted os started H enc)

theorem once_holds : Rows.SinkOnceCardSaid :=
  Claim7.holds_tied_plain_at .later [] [.data, .data, .data, .sentinel, .sentinel] true Rows.sinkOnceCard.stood.harness true
    row_holds (fun _ h => by cases h) (by kernel_rfl) (fun _ h => by cases h) sinkOnce_row_tie rfl ⟨rfl, rfl⟩ (by kernel_rfl) rfl
    (fun f fn hf hfn => by
      obtain rfl : f = 4 := Option.some.inj ((show Tryz.prog.funcNamed Rows.sinkOnceRow.func = some 4 by kernel_rfl).symm.trans hf) |>.symm
      obtain rfl : fn = Tryz.f4 := (Option.some.inj (Tryz.func4.symm.trans hfn)).symm
      exact ⟨by kernel_rfl, fun j t ht => by
        rw [Tryz.params4] at ht
        have hm := Array.mem_of_getElem? ht
        have hall : ((Tryz.f4.params.toList).all fun u => !Tryz.prog.wantsStandIn u) = true := by kernel_rfl
        rw [Tryz.params4] at hall
        exact (show Tryz.prog.wantsStandIn t = false by simpa using List.all_eq_true.1 hall t (by simpa using hm))⟩)
    (by kernel_rfl)

end Go.Proofs.YtjlfpkgjcffilaaGreatDoor
end

