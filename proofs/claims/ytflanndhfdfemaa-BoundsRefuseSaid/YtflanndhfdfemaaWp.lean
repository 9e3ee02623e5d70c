/-
  BoundsRefuse: the walk.
-/
import Derived.Test.YtflanndhfdfemaaWo
set_option linter.unusedVariables false
set_option linter.unusedSimpArgs false
namespace Go.Proofs.Ytflanndhfdfemaa
open Go.Vc

theorem k44 : appB Try.prog 23 44 16 248 = true := by kernel_rfl

theorem sl_delta {M : List Nat} {w : World} {b o : Nat} {l : List DeltaD} (h : Sl M w (some ⟨b, o, none⟩) l) {i : Nat} (hi : i < l.length) : ∃ q cap, RowAt w b (o + i * 3) [.int .i64 l[i].time, .slice q l[i].row.length cap, .int .i64 l[i].n] := by
  obtain ⟨b', o', cs, e, _, h3, _, _, rfl, ⟨rfl, _⟩, _, _, rfl, ⟨q, cap, rfl, _⟩, rfl, _⟩ := h i hi
  cases e
  exact ⟨q, cap, h3⟩

set_option maxRecDepth 100000 in
set_option maxHeartbeats 400000 in
theorem Refuse_in {Φ : PW} [Stable Φ] (p0P : Option Addr) (p0N p0C : Nat) (p : Option Addr) (cap : Nat) (l : List NodeD) (c : CfgC) (node n : Int) (hsl : ∀ M w, Φ M w → Sl M w p l) (hlen : l.length ≤ 9223372036854775807) :
    GivesIn Φ Try.prog F.erratalaw20_BoundsRefuse #[.agg #[.slice p0P p0N p0C, .slice p l.length cap], c.v, .int .i64 node, .int .i64 n] (.bool true) := by
  refine gives_in (Berratalaw20_BoundsRefuse_run p0P p0N p0C p l.length cap c.parts c.delay c.late c.ahead c.rate c.span node n) fun W R => ?_
  have done : ∀ w F, Ctx W w (R ++ F) Φ → (Value.bool true = .bool true ∧ Ctx W w R Φ) := fun w F cx => ⟨rfl, cx.left⟩
  refine fun _ _ w F cx => small_g.in.use cx fun w cx => ⟨_, rfl, _, _, inferInstance, cx, fun w F cx => (few_in _ _ _ _ _ _ hsl hlen).use cx fun w cx => ⟨_, rfl, _, _, inferInstance, cx, Br.intro (fun _ => done) (fun hfew => Br.intro (fun _ => done) (fun hn1 => Br.intro (fun _ => done) (fun hn2 =>
    Br.intro (fun _ => done) (fun hm1 => Br.intro (fun _ => done) (fun hm2 => fun w F cx => (Analyze_in _ _ _ _ _ _ c hsl hlen).use cx fun p20 k22 w h22 hm22 cx => ?_)))))⟩⟩
  have hfew : fewB l = true := by simpa using hfew
  have hn1 : ¬ node < 0 := by simpa using hn1
  have hn2 : ¬ (l.length : Int) ≤ node := by simpa using hn2
  have hm1 : ¬ n < 1 := by simpa using hm1
  have hm2 : ¬ 100 < n := by simpa using hm2
  refine ⟨p20, _, k22, _, _, rfl, R, Φ, inferInstance, cx.fst, fun w F cx => ?_⟩
  rcases analyze_cases l c with ⟨h1, h2⟩ | ⟨h1, han⟩
  · rw [h1]
    refine Br.intro (fun _ => done) (fun h => ?_)
    simp at h
  have h0 : (analyzeD l c).2.2 = 0 := by rw [h1]
  have hal := han.len
  have hpos := han.pos
  have hle := han.le
  rw [h0]
  refine Br.intro (fun h => ?_) (fun _ => fun k39 w F cx => ?_)
  · exfalso
    simp at h
    rw [h] at hal
    simp at hal
    omega
  obtain ⟨hcfg, hw, _⟩ := analyze_parts h0
  have hcb := cfg_bd hcfg
  obtain ⟨nd, rfl⟩ : ∃ m : Nat, node = m := ⟨node.toNat, by omega⟩
  obtain ⟨m, rfl⟩ : ∃ m : Nat, n = m := ⟨n.toNat, by omega⟩
  have hnd : nd < l.length := by omega
  have hwf := han.well nd hnd
  have hop : 0 ≤ l[nd].op ∧ l[nd].op ≤ 8 := by
    simp only [nodeOk, Bool.and_eq_true] at hwf
    have := hwf.1.1
    simpa [win] using this
  have hnum := han.num hnd
  have hcolsl : ∀ x ∈ l, x.cols.length ≤ 20 := fun x hx => by
    simp only [fewB, Bool.and_eq_true, List.all_eq_true] at hfew
    have := hfew.1 x hx
    simp [fewN] at this
    omega
  obtain ⟨law1, law2⟩ := refuse_law hnd h1 hop.2
  have wl := wit_law (m := m) hnd han hw
  have cx := Ctx.toBuf cx 0 0 16 rfl rfl (Nat.zero_le _)
  have cx : Ctx W w (.buf (some ⟨k39, 0, none⟩) 0 0 [] 44 (Gv.ty NodeD).size :: (R ++ F)) Φ := cx
  obtain ⟨p', cap', w', news, hr, ⟨g, rfl⟩, cx⟩ := Ctx.appSl cx k44 node_one hsl (by omega) (by omega) (by omega)
  rw [Nat.zero_add] at hr cx
  refine ⟨some ⟨g, 0, none⟩, _, cap', w', hr, .buf (some ⟨g, 0, none⟩) l.length cap' news 44 16 :: R, fun M w => Φ M w ∧ Elems M w news l, inferInstance, cx, ?_⟩
  obtain ⟨x, hx, _⟩ := node_cells (cx.phi.2.2 nd hnd)
  have hnl : news.length = l.length * 16 := cx.phi.2.1
  have hrep : ∀ M w, Elems M w news l → Gv.rep M w x.cells l[nd] := fun M w h => by rw [← hx]; exact h.2 nd hnd
  have hlike := node_like (hrep _ _ cx.phi.2)
  have hx1 : x.n1N = l[nd].inp.length := by
    obtain ⟨c, e, _, _, h1, _⟩ := node_cells (hrep _ _ cx.phi.2)
    rw [cells_inj e]; exact h1
  have hthx : There x.n1P l[nd].inp.length := (node_in (hrep _ _ cx.phi.2)).there
  clear cx hr
  have hxr : ∀ j, (hj : j < x.cells.length) → news[0 + nd * 16 + j]? = some x.cells[j] := rows_of (by rw [Nat.zero_add]; exact hx)
  have hcl : x.cells.length = 16 := rfl
  have hbound : nd * 16 + 16 ≤ news.length := by rw [hnl]; omega
  refine fun _ => ⟨by omega, ptrK_intro g 0 rfl fun w F cx => ⟨_, _, _, _, _, _, _, _, _, _, _, _, _, _, _, _, _, _, _, _, _, _, _, _, _, _, _, _, _, _, cx.bufRow 0 rfl rfl hxr, fun _ => ⟨by omega, ptrK_intro g 0 rfl fun w F cx => ⟨cx.bufCan 0 rfl rfl (by rw [Int.toNat_natCast, Nat.zero_add]; exact hbound), fun w' e => ?_⟩⟩⟩⟩
  have cx : Ctx W w' (.buf (some ⟨g, 0, none⟩) l.length cap' (setL news (nd * 16) (negC x).cells) 44 (Gv.ty NodeD).size :: (R ++ F)) (fun M w => Φ M w ∧ Elems M w news l) :=
    cx.bufPuts 0 (vs := (negC x).cells) rfl rfl (by omega) (by show nd * 16 + 16 ≤ _; exact hbound) (by rw [e, Int.toNat_natCast, Nat.zero_add]; rfl)
  have hset : ∀ M w, Elems M w news l → Elems M w (setL news (nd * 16) (negC x).cells) (l.set nd (neg l[nd])) := fun M w h => h.setAt nd hnd (node_negC (hrep M w h))
  obtain ⟨c1, hs1, _⟩ := Ctx.freeze cx (hset _ _ cx.phi.2)
  have cx := (c1.weak (Ψ := fun M w => Φ M w ∧ Sl M w x.n1P l[nd].inp) fun M w h => ⟨h.1, node_in (hrep M w h.2)⟩).add (Ψ := fun M w => Sl M w (some ⟨g, 0, none⟩) (l.set nd (neg l[nd]))) hs1
  obtain ⟨b', o', cs', hp', cx⟩ := cx.pin cx.phi.2
  clear c1 hs1 hset hxr hx hrep
  obtain ⟨Ψ, hΨ⟩ : ∃ Ψ : PW, Ψ = fun M w => ((Φ M w ∧ Sl M w x.n1P l[nd].inp) ∧ Sl M w (some ⟨g, 0, none⟩) (l.set nd (neg l[nd]))) ∧ Pin b' o' cs' (l.set nd (neg l[nd])) M w := ⟨_, rfl⟩
  have hS : Stable Ψ := by rw [hΨ]; infer_instance
  rw [← hΨ] at cx
  have hw1 : ∀ M w, Ψ M w → Φ M w := fun M w h => by rw [hΨ] at h; exact h.1.1.1
  have hw2 : ∀ M w, Ψ M w → Sl M w x.n1P l[nd].inp := fun M w h => by rw [hΨ] at h; exact h.1.1.2
  have hw3 : ∀ M w, Ψ M w → Sl M w (some ⟨g, 0, none⟩) (l.set nd (neg l[nd])) := fun M w h => by rw [hΨ] at h; exact h.1.2
  have hw4 : ∀ M w, Ψ M w → Pin b' o' cs' (l.set nd (neg l[nd])) M w := fun M w h => by rw [hΨ] at h; exact h.2
  clear hΨ
  have hgb : (⟨g, 0, none⟩ : Addr) = ⟨b', o', none⟩ := by have := hp' (by rw [List.length_set]; omega); cases this; rfl
  cases hgb
  have hll : (l.set nd (neg l[nd])).length = l.length := by simp
  have fine : ∀ w F, Ctx W w (R ++ F) Ψ → (Value.bool true = .bool true ∧ Ctx W w R Φ) := fun w F cx => ⟨rfl, (cx.weak hw1).left⟩
  refine ⟨R, Ψ, hS, cx, fun w F cx => ?_⟩
  have hA := Analyze_in (Φ := Ψ) none 0 0 (some ⟨g, 0, none⟩) cap' (l.set nd (neg l[nd])) c hw3 (by omega)
  rw [hll] at hA
  refine hA.use cx fun p93 k95 w _ _ cx => ⟨p93, _, k95, _, _, rfl, R, Ψ, hS, cx.weak fun _ _ h => h.1, ?_⟩
  refine Br.intro (fun hlo => ?_) (fun hhi => ?_)
  · have hlo : l[nd].op ≤ 3 := by rw [← hlike.e0]; simpa using hlo
    rw [law1 hlo]
    exact fun w F cx => fun w F cx => fine w F cx
  have hhi : 3 < l[nd].op := by rw [← hlike.e0]; simpa using hhi
  have hA2 := law2 hhi
  rw [hA2]
  have hkin : kIn l[nd].op = if l[nd].op = 0 then 0 else if l[nd].op = 3 ∨ l[nd].op = 6 ∨ l[nd].op = 7 then 2 else 1 := rfl
  rw [if_neg (by omega)] at hkin
  have hi0 : 0 < l[nd].inp.length := by split at hkin <;> omega
  have hir := han.ins hnd _ (List.getElem_mem hi0)
  have hil : l[nd].inp[0].toNat < (l.set nd (neg l[nd])).length := by omega
  have wl := wl hhi hop.2 hi0 (by omega) hil
  have hbn : boundedB (negC x) = false := by
    have : Like (negC x) (neg l[nd]) := ⟨hlike.e0, hlike.e5, rfl, rfl, rfl, rfl, rfl, hlike.e14⟩
    rw [this.bounded]; exact neg_hi hhi hop.2
  refine Br.intro (fun h => by simp at h) (fun _ => Br.intro (fun h => by simp at h) (fun _ => fun w F cx => (Bounded_g (negC x)).in.use cx fun w cx => ⟨_, rfl, R, Ψ, hS, cx, Br.intro (fun h => by rw [hbn] at h; cases h) (fun _ => fun w F cx => ?_)⟩))
  obtain ⟨bi, oi, hbi⟩ := hthx (by omega)
  obtain ⟨y, hrow, _, _, h15, _, hcols⟩ := node_at hw4 cx l[nd].inp[0].toNat hil
  have hthc := (hcols _ _ cx.phi).there
  have hclen : ((l.set nd (neg l[nd]))[l[nd].inp[0].toNat]).cols.length ≤ 20 := by
    by_cases e : nd = l[nd].inp[0].toNat
    · omega
    · rw [List.getElem_set_ne e]; exact hcolsl _ (List.getElem_mem _)
  refine ⟨by omega, ptrK_intro bi oi hbi ⟨l[nd].inp[0], by have := sl_int (hbi ▸ hw2 _ _ cx.phi) hi0; rwa [Nat.add_zero] at this, by omega, ptrK_intro g 0 rfl ⟨_, _, _, hrow _ _ cx.phi 15 (by simp), ?_⟩⟩⟩
  rw [h15]
  clear cx
  have hcl20 : ∀ z ∈ l.set nd (neg l[nd]), z.cols.length ≤ 1000 := fun z hz => by
    rcases List.mem_or_eq_of_mem_set hz with h | h
    · have := hcolsl z h; omega
    · subst h; have := hcolsl _ (List.getElem_mem hnd); show l[nd].cols.length ≤ 1000; omega
  have hW := Witness_in (Φ := Ψ) none 0 0 (some ⟨g, 0, none⟩) cap' (l.set nd (neg l[nd])) nd m hw3 (by omega) hcl20
  rw [hll, wl] at hW
  generalize ((l.set nd (neg l[nd]))[l[nd].inp[0].toNat]).cols = cols at *
  refine exI_mk (fun n133 R' Φ' k => ∃ i : Nat, n133 = i ∧ i ≤ cols.length ∧ R' = R ∧ Φ' = Ψ ∧ k = cols.length - i ∧ ∀ c ∈ cols.take i, colB c = true) ⟨⟨R, Ψ, _, hS, fun w F c => c, 0, rfl, Nat.zero_le _, rfl, rfl, rfl, by simp⟩, ?_⟩
  rintro n133 R1 Φ1 k _ ⟨i, rfl, hi, rfl, rfl, rfl, hok⟩
  refine Br.intro (fun hlt => fun w F cx => ?_) (fun hge => fun w F cx => ?_)
  · have hlt : i < cols.length := by simpa using hlt
    obtain ⟨bc, oc, hbc⟩ := hthc (by omega)
    have hcr := sl_col (hbc ▸ hcols _ _ cx.phi) hlt
    refine ⟨by omega, ptrK_intro bc oc hbc ⟨_, hcr 1 (by simp), fun _ => by omega, ptrK_intro bc oc hbc ⟨_, fun _ => hcr 1 (by simp), Br.intro (fun hbad => ?_) (fun hgood => ?_)⟩⟩⟩
    · have hbad : colB cols[i] = false := by
        simp at hbad
        simp only [colB, win, Bool.and_eq_false_iff, decide_eq_false_iff_not]
        omega
      rw [if_neg (fun h => by rw [List.all_eq_true] at h; have := h _ (List.getElem_mem hlt); rw [hbad] at this; cases this)] at hW
      exact Br.intro (fun _ => fun w F cx => hW.use cx fun p149 k151 w _ _ cx => ⟨p149, _, k151, rfl, R1, Φ1, hS, cx.weak fun _ _ h => h.1, fun w F cx => fine w F cx⟩) (fun h => by cases h)
    · have hgood : colB cols[i] = true := by
        simp at hgood
        simp only [colB, win, Bool.and_eq_true, decide_eq_true_eq]
        omega
      refine ⟨by unfold I64; omega, R1, Φ1, _, hS, fun w F c => c, ⟨i + 1, rfl, hlt, rfl, rfl, rfl, ?_⟩, by omega⟩
      rw [List.take_succ_eq_append_getElem hlt]
      intro c hc
      rcases List.mem_append.1 hc with hc | hc
      · exact hok c hc
      · rw [List.mem_singleton] at hc; subst hc; exact hgood
  · have hge : i = cols.length := Nat.le_antisymm hi (by simpa using hge)
    subst hge
    rw [List.take_length] at hok
    rw [if_pos (List.all_eq_true.2 hok)] at hW
    refine hW.use cx fun p167 k169 w _ _ cx => ?_
    have htw := cx.phi.2.there
    have hdl : ((List.range m).map (deltaOf cols)).length = m := by simp
    have hds : ∀ j, (hj : j < ((List.range m).map (deltaOf cols)).length) → ((List.range m).map (deltaOf cols))[j] = deltaOf cols j := fun j hj => by simp
    generalize hdd : (List.range m).map (deltaOf cols) = ds at *
    have hS2 : Stable (fun M w => Φ1 M w ∧ Sl M w p167 ds) := instStableAnd Φ1 (fun M w => Sl M w p167 ds)
    refine ⟨p167, _, k169, rfl, R1, fun M w => Φ1 M w ∧ Sl M w p167 ds, hS2, cx, ?_⟩
    clear cx
    refine exI_mk (fun n178 R' Φ' k => ∃ j : Nat, n178 = j ∧ 1 ≤ j ∧ R' = R1 ∧ Φ' = (fun M w => Φ1 M w ∧ Sl M w p167 ds) ∧ k = m + 1 - j) ⟨⟨R1, _, _, hS2, fun w F c => c, 1, rfl, Nat.le_refl _, rfl, rfl, rfl⟩, ?_⟩
    rintro n178 R2 Φ2 k _ ⟨j, rfl, hj, rfl, rfl, rfl⟩
    refine Br.intro (fun hlt => fun w F cx => ?_) (fun hge => fun w F cx => fun w F cx => ?_)
    · have hlt : j < ds.length := by simpa using hlt
      obtain ⟨bd, od, rfl⟩ := htw (by omega)
      obtain ⟨q, qc, hr1⟩ := sl_delta cx.phi.2 hlt
      obtain ⟨q2, qc2, hr2⟩ := sl_delta cx.phi.2 (show j - 1 < ds.length by omega)
      rw [hds j hlt] at hr1
      rw [hds (j - 1) (by omega)] at hr2
      have e1 : (((j : Int) - 1).toNat) = j - 1 := by omega
      refine ⟨by omega, ptrK_intro bd od rfl ⟨_, hr1 0 (by simp), by unfold I64; omega, by omega, ptrK_intro bd od rfl ?_⟩⟩
      rw [e1]
      have ed : (deltaOf cols j).time = 30001 * (j : Int) := rfl
      have ed2 : (deltaOf cols (j - 1)).time = 30001 * ((j - 1 : Nat) : Int) := rfl
      have edr : (deltaOf cols j).row.length = cols.length := by simp [deltaOf]
      have edn : (deltaOf cols j).n = 1 := rfl
      refine ⟨_, hr2 0 (by simp), by show I64 ((deltaOf cols j).time - (deltaOf cols (j - 1)).time); rw [ed, ed2]; unfold I64; omega, fun _ => by omega, ptrK_intro bd od rfl ⟨_, fun _ => hr1 2 (by simp), fun _ => by omega, ptrK_intro bd od rfl ⟨_, _, _, fun _ => hr1 1 (by simp), ?_⟩⟩⟩
      refine Br.intro (fun h => ?_) (fun _ => ⟨by unfold I64; omega, R2, _, m + 1 - (j + 1), hS2, fun w F c => c, ⟨j + 1, rfl, by omega, rfl, rfl, rfl⟩, by omega⟩)
      exfalso
      rw [ed, ed2, edr, edn] at h
      simp at h
      omega
    · have hfin := fine w F (cx.weak fun _ _ h => h.1)
      rw [hdl]
      exact ⟨by simp, hfin.2⟩

end Go.Proofs.Ytflanndhfdfemaa
