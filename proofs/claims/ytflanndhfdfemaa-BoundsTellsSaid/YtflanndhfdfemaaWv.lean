/-
  The walks of SameRows and BoundsTells.
-/
import Derived.Test.YtflanndhfdfemaaWu
import Derived.Test.YtflanndhfdfemaaBe
set_option linter.unusedVariables false
set_option linter.unusedSimpArgs false
namespace Go.Proofs.Ytflanndhfdfemaa
open Go.Vc

theorem sl_delta2 {M : List Nat} {w : World} {b o : Nat} {l : List DeltaD} (h : Sl M w (some ⟨b, o, none⟩) l) {i : Nat} (hi : i < l.length) : ∃ q cap, RowAt w b (o + i * 3) [.int .i64 l[i].time, .slice q l[i].row.length cap, .int .i64 l[i].n] ∧ Sl M w q l[i].row := by
  obtain ⟨b', o', cs, e, _, h3, _, _, rfl, ⟨rfl, _⟩, _, _, rfl, ⟨q, cap, rfl, _, _, hs⟩, rfl, _⟩ := h i hi
  cases e
  exact ⟨q, cap, h3, hs⟩

theorem sl_val {M : List Nat} {w : World} {b o : Nat} {l : List ValD} (h : Sl M w (some ⟨b, o, none⟩) l) {i : Nat} (hi : i < l.length) : RowAt w b (o + i * 3) [.int .i64 l[i].kind, .int .i64 l[i].num, .string l[i].text] := by
  obtain ⟨b', o', cs, e, _, h3, _, _, rfl, ⟨rfl, _⟩, _, _, rfl, ⟨rfl, _⟩, rfl, _⟩ := h i hi
  cases e
  exact h3

set_option maxRecDepth 100000 in
set_option maxHeartbeats 400000 in
theorem SameRows_in {Φ : PW} [Stable Φ] (aP : Option Addr) (aC : Nat) (bP : Option Addr) (bC : Nat) (l : List DeltaD) (ha : ∀ M w, Φ M w → Sl M w aP l) (hb : ∀ M w, Φ M w → Sl M w bP l) (hlen : l.length ≤ 1000) (hrow : ∀ d ∈ l, d.row.length ≤ 1000) :
    GivesIn Φ Try.prog F.errataref20_SameRows #[.slice aP l.length aC, .slice bP l.length bC] (.bool true) := by
  refine .there (fun M w h => (ha M w h).there) fun hta => .there (fun M w h => (hb M w h).there) fun htb => ?_
  refine gives_in (Berrataref20_SameRows_run aP l.length aC bP l.length bC) fun W R => ?_
  refine Br.intro (fun h => by simp at h) (fun _ => ?_)
  refine exI_mk (fun n R' Φ' k => ∃ j : Nat, n = j ∧ j ≤ l.length ∧ R' = R ∧ Φ' = Φ ∧ k = l.length - j) ⟨⟨R, Φ, _, inferInstance, fun w F c => c, 0, rfl, Nat.zero_le _, rfl, rfl, rfl⟩, ?_⟩
  rintro n R1 Φ1 k _ ⟨j, rfl, hj, rfl, rfl, rfl⟩
  refine Br.intro (fun hlt => fun w F cx => ?_) (fun hge => fun w F cx => ⟨rfl, cx.left⟩)
  have hlt : j < l.length := by simpa using hlt
  obtain ⟨b1, o1, rfl⟩ := hta (by omega)
  obtain ⟨b2, o2, rfl⟩ := htb (by omega)
  have hrl := hrow l[j] (List.getElem_mem hlt)
  obtain ⟨q1, c1, r1, s1⟩ := sl_delta2 (ha _ _ cx.phi) hlt
  obtain ⟨q2, c2, r2, s2⟩ := sl_delta2 (hb _ _ cx.phi) hlt
  refine ⟨by omega, ptrK_intro b1 o1 rfl ⟨_, r1 0 (by simp), by omega, ptrK_intro b2 o2 rfl ⟨_, r2 0 (by simp), fun _ => by omega, ptrK_intro b1 o1 rfl ⟨_, fun _ => r1 2 (by simp), fun _ => by omega, ptrK_intro b2 o2 rfl ⟨_, fun _ => r2 2 (by simp), fun _ => by omega, ptrK_intro b1 o1 rfl ⟨_, _, _, fun _ => r1 1 (by simp),
    fun _ => by omega, ptrK_intro b2 o2 rfl ⟨_, _, _, fun _ => r2 1 (by simp), Br.intro (fun h => by simp at h) (fun _ => ?_)⟩⟩⟩⟩⟩⟩⟩
  clear cx
  refine exI_mk (fun m R' Φ' k => ∃ i : Nat, m = i ∧ i ≤ l[j].row.length ∧ R' = R1 ∧ Φ' = Φ1 ∧ k = l[j].row.length - i) ⟨⟨R1, Φ1, _, inferInstance, fun w F c => c, 0, rfl, Nat.zero_le _, rfl, rfl, rfl⟩, ?_⟩
  rintro m R2 Φ2 k _ ⟨i, rfl, hi, rfl, rfl, rfl⟩
  refine ⟨by omega, ptrK_intro b1 o1 rfl fun w F cx => ?_⟩
  obtain ⟨q3, c3, r3, s3⟩ := sl_delta2 (ha _ _ cx.phi) hlt
  refine ⟨_, _, _, r3 1 (by simp), Br.intro (fun hi' => fun w F cx => ?_) (fun _ => ⟨by unfold I64; omega, R2, Φ2, l.length - (j + 1), inferInstance, fun w F c => c, ⟨j + 1, rfl, hlt, rfl, rfl, rfl⟩, by omega⟩)⟩
  have hi' : i < l[j].row.length := by simpa using hi'
  obtain ⟨q4, c4, r4, s4⟩ := sl_delta2 (ha _ _ cx.phi) hlt
  obtain ⟨q5, c5, r5, s5⟩ := sl_delta2 (hb _ _ cx.phi) hlt
  obtain ⟨b4, o4, rfl⟩ := s4.there (by omega)
  obtain ⟨b5, o5, rfl⟩ := s5.there (by omega)
  exact ⟨by omega, ptrK_intro b1 o1 rfl ⟨_, _, _, r4 1 (by simp), by omega, ptrK_intro b4 o4 rfl ⟨_, _, _, sl_val s4 hi', by omega, ptrK_intro b2 o2 rfl ⟨_, _, _, r5 1 (by simp), by omega, ptrK_intro b5 o5 rfl ⟨_, _, _, sl_val s5 hi', by kernel_rfl, Br.intro (fun h => by simp at h) (fun _ => ⟨by unfold I64; omega, R2, Φ2, l[j].row.length - (i + 1), inferInstance, fun w F c => c, ⟨i + 1, rfl, hi', rfl, rfl, rfl⟩, by omega⟩)⟩⟩⟩⟩⟩

theorem wit_bd {l : List NodeD} {node n : Int} (hcols : ∀ x ∈ l, x.cols.length ≤ 1000) : (witD l node n).length ≤ 1000 ∧ ∀ d ∈ witD l node n, d.row.length ≤ 1000 := by
  unfold witD
  split
  · rename_i h
    have hn : 1 ≤ n ∧ n ≤ 1000 := by simpa [win] using h.2.2
    split
    · simp
    split
    · simp
    split
    · simp
    split
    · simp
    rename_i y hy
    split
    · refine ⟨by simp; omega, fun d hd => ?_⟩
      obtain ⟨k, _, rfl⟩ := List.mem_map.1 hd
      have := hcols _ (List.mem_of_getElem? hy)
      simpa [deltaOf] using this
    · simp
  · simp

set_option maxRecDepth 100000 in
set_option maxHeartbeats 1000000 in
theorem Tells_in {Φ : PW} [Stable Φ] (p0P : Option Addr) (p0N p0C : Nat) (p : Option Addr) (cap : Nat) (l : List NodeD) (c : CfgC) (x : NodeC) (node n : Int) (hsl : ∀ M w, Φ M w → Sl M w p l) (hlen : l.length ≤ 9223372036854775807) :
    GivesIn Φ Try.prog F.erratalaw20_BoundsTells #[.agg #[.slice p0P p0N p0C, .slice p l.length cap], c.v, x.v, .int .i64 node, .int .i64 n] (.bool true) := by
  refine gives_in (Berratalaw20_BoundsTells_run p0P p0N p0C p l.length cap c.parts c.delay c.late c.ahead c.rate c.span x.n0 x.n1P x.n1N x.n1C x.n2 x.n3 x.n4P x.n4N x.n4C x.n5 x.n6 x.n7 x.n8P x.n8N x.n8C x.n9P x.n9N x.n9C x.n10 x.n11 x.n12 x.n13P x.n13N x.n13C x.n14P x.n14N x.n14C x.n15P x.n15N x.n15C node n) fun W R => ?_
  have done : ∀ w F, Ctx W w (R ++ F) Φ → (Value.bool true = .bool true ∧ Ctx W w R Φ) := fun w F cx => ⟨rfl, cx.left⟩
  refine fun _ _ _ w F cx => small_g.in.use cx fun w cx => ⟨_, rfl, _, _, inferInstance, cx, fun w F cx => (few_in _ _ _ _ _ _ hsl hlen).use cx fun w cx => ⟨_, rfl, _, _, inferInstance, cx, Br.intro (fun _ => done) (fun hfew => ?_)⟩⟩
  have hfew : fewB l = true := by simpa using hfew
  simp only [fewB, Bool.and_eq_true, List.all_eq_true, decide_eq_true_eq] at hfew
  have hcols : ∀ z ∈ l, z.cols.length ≤ 1000 := fun z hz => by
    have := hfew.1 z hz
    simp [fewN] at this
    omega
  obtain ⟨hwl, hwr⟩ := wit_bd (node := node) (n := n) hcols
  have hal : (analyzeD l c).1.length ≤ 1000000 := by
    rcases analyze_cases l c with ⟨h, _⟩ | ⟨_, h⟩
    · rw [h]; simp
    · have := h.len; have := h.le; omega
  refine fun w F cx => (Analyze_in _ _ _ _ _ _ c hsl hlen).use cx fun p1 k1 w _ _ cx => ⟨p1, _, k1, _, _, rfl, R, fun M w => Φ M w ∧ Sl M w p1 (analyzeD l c).1, inferInstance, cx, fun w F cx => ?_⟩
  refine (rAnalyze_in (Φ := fun M w => Φ M w ∧ Sl M w p1 (analyzeD l c).1) p0P p0N p0C p cap l c (fun _ _ h => hsl _ _ h.1) hlen).use cx fun p2 k2 w _ _ cx => ?_
  obtain ⟨Ψ, hΨ⟩ : ∃ Ψ : PW, Ψ = fun M w => (Φ M w ∧ Sl M w p1 (analyzeD l c).1) ∧ Sl M w p2 (analyzeD l c).1 := ⟨_, rfl⟩
  have hS : Stable Ψ := by rw [hΨ]; infer_instance
  rw [← hΨ] at cx
  have hw1 : ∀ M w, Ψ M w → Φ M w := fun M w h => by rw [hΨ] at h; exact h.1.1
  have hw2 : ∀ M w, Ψ M w → Sl M w p1 (analyzeD l c).1 := fun M w h => by rw [hΨ] at h; exact h.1.2
  have hw3 : ∀ M w, Ψ M w → Sl M w p2 (analyzeD l c).1 := fun M w h => by rw [hΨ] at h; exact h.2
  have hws : ∀ M w, Ψ M w → Sl M w p l := fun M w h => hsl _ _ (hw1 _ _ h)
  clear hΨ
  refine ⟨p2, _, k2, _, _, rfl, R, Ψ, hS, cx, fun w F cx => (Total_in _ _ _ _ _ _ c hws hlen).use cx fun w cx => ⟨_, _, _, _, _, rfl, R, Ψ, hS, cx, fun _ w F cx => (rTotal_in _ _ _ _ _ _ c hws hlen).use cx fun w cx => ⟨_, _, _, _, _, rfl, R, Ψ, hS, cx, fun _ w F cx => (Own_g x).in.use cx fun w cx => ⟨_, _, rfl, R, Ψ, hS, cx, fun w F cx => (rOwn_g x).in.use cx fun w cx => ⟨_, _, rfl, R, Ψ, hS, cx,
    fun w F cx => (Same_in p1 k1 p2 k2 _ _ hw2 hw3 hal).use cx fun w cx => ⟨_, rfl, R, Ψ, hS, cx, ?_⟩⟩⟩⟩⟩⟩
  refine Br.intro (fun h => by simp [sameB] at h) (fun _ => Br.intro (fun h => by simp at h) (fun _ => Br.intro (fun h => by simp at h) (fun _ => ⟨by kernel_rfl, Br.intro (fun h => by simp at h) (fun _ => Br.intro (fun h => by simp at h) (fun _ => Br.intro (fun h => by simp at h) (fun _ => Br.intro (fun h => by simp at h) (fun _ => Br.intro (fun _ => ?_) (fun h => by cases h)))))⟩)))
  refine fun w F cx => (RightConfig_g c).in.use cx fun w cx => ⟨_, rfl, R, Ψ, hS, cx, fun _ _ h => h, fun w F cx => (rRightConfig_g c).in.use cx fun w cx => ⟨_, rfl, R, Ψ, hS, cx, fun _ _ h => h, Br.intro (fun _ => ?_) (fun h => by simp at h)⟩⟩
  refine fun w F cx => (Well_in _ _ _ _ _ _ hws hlen).use cx fun w cx => ⟨_, rfl, R, Ψ, hS, cx, fun _ _ h => h, fun w F cx => (rWell_in _ _ _ _ _ _ hws).use cx fun w cx => ⟨_, rfl, R, Ψ, hS, cx, fun _ _ h => h, Br.intro (fun _ => ?_) (fun h => by simp at h)⟩⟩
  refine fun w F cx => (Bounded_g x).in.use cx fun w cx => ⟨_, rfl, R, Ψ, hS, cx, fun _ _ h => h, fun w F cx => (rBounded_g x).in.use cx fun w cx => ⟨_, rfl, R, Ψ, hS, cx, fun _ _ h => h, Br.intro (fun _ => ?_) (fun h => by simp at h)⟩⟩
  refine fun w F cx => (Witness_in _ _ _ _ _ _ node n hws (by omega) hcols).use cx fun p3 k3 w _ _ cx => ⟨p3, _, k3, rfl, R, fun M w => Ψ M w ∧ Sl M w p3 (witD l node n), instStableAnd Ψ (fun M w => Sl M w p3 (witD l node n)), cx, fun _ _ h => h.1, fun w F cx => ?_⟩
  have hS2 : Stable (fun M w => Ψ M w ∧ Sl M w p3 (witD l node n)) := instStableAnd Ψ (fun M w => Sl M w p3 (witD l node n))
  refine (rWitness_in (Φ := fun M w => Ψ M w ∧ Sl M w p3 (witD l node n)) p0P p0N p0C p cap l node n (fun _ _ h => hws _ _ h.1) (by omega) hcols).use cx fun p4 k4 w _ _ cx => ?_
  have hS3 : Stable (fun M w => (Ψ M w ∧ Sl M w p3 (witD l node n)) ∧ Sl M w p4 (witD l node n)) := instStableAnd (fun M w => Ψ M w ∧ Sl M w p3 (witD l node n)) (fun M w => Sl M w p4 (witD l node n))
  refine ⟨p4, _, k4, rfl, R, fun M w => (Ψ M w ∧ Sl M w p3 (witD l node n)) ∧ Sl M w p4 (witD l node n), hS3, cx, fun _ _ h => h.1.1, fun w F cx => ?_⟩
  exact (SameRows_in (Φ := fun M w => (Ψ M w ∧ Sl M w p3 (witD l node n)) ∧ Sl M w p4 (witD l node n)) p3 k3 p4 k4 (witD l node n) (fun _ _ h => h.1.2) (fun _ _ h => h.2) hwl hwr).use cx fun w cx => ⟨_, rfl, R, Ψ, hS, cx.weak fun _ _ h => h.1.1, fun _ _ h => h, fun w F cx => ⟨rfl, (cx.weak hw1).left⟩⟩

end Go.Proofs.Ytflanndhfdfemaa
