/-
  BoundsPaths: the walk.
-/
import Derived.Test.YtflanndhfdfemaaWi
set_option linter.unusedVariables false
set_option linter.unusedSimpArgs false
namespace Go.Proofs.Ytflanndhfdfemaa
open Go.Vc

theorem acc_row {M : List Nat} {w : World} {b o : Nat} {l : List BndD} (h : Sl M w (some ⟨b, o, none⟩) l) {i : Nat} (hi : i < l.length) : RowAt w b (o + i * 4) (l.getD i default).cells := by
  rw [List.getD_eq_getElem?_getD, List.getElem?_eq_getElem hi]
  exact sl_bnd h hi

set_option maxRecDepth 100000 in
theorem Paths_pin {Φ : PW} [Stable Φ] (p0P : Option Addr) (p0N p0C : Nat) (p : Option Addr) (cap : Nat) (l : List NodeD) (c : CfgC) (b o : Nat) (cs : List (List Value)) (hp : 0 < l.length → p = some ⟨b, o, none⟩) (hΦ : ∀ M w, Φ M w → Pin b o cs l M w)
    (hsl : ∀ M w, Φ M w → Sl M w p l) (hlen : l.length ≤ 9223372036854775807) :
    GivesIn Φ Try.prog F.erratalaw20_BoundsPaths #[.agg #[.slice p0P p0N p0C, .slice p l.length cap], c.v] (.bool true) := by
  refine gives_in (Berratalaw20_BoundsPaths_run p0P p0N p0C p l.length cap c.parts c.delay c.late c.ahead c.rate c.span) fun W R => ?_
  refine fun _ _ w F cx => small_g.in.use cx fun w cx => ⟨_, rfl, _, _, inferInstance, cx, fun w F cx => (few_pin _ _ _ _ _ _ b o cs hp hΦ hlen).use cx fun w cx => ⟨_, rfl, _, _, inferInstance, cx, Br.intro (fun _ => fun w F cx => ⟨rfl, cx.left⟩) (fun hfew => fun w F cx => (Analyze_in _ _ _ _ _ _ c hsl (by omega)).use cx fun p20 k22 w h22 _ cx => ?_)⟩⟩
  have hth := cx.phi.2.there
  refine ⟨p20, _, k22, _, _, rfl, R, fun M w => Φ M w ∧ Sl M w p20 (analyzeD l c).1, inferInstance, cx, ?_⟩
  rcases analyze_cases l c with ⟨h1, h2⟩ | ⟨h1, han⟩
  · refine Br.intro (fun _ => fun w F cx => fun w F cx => ⟨by rw [h1]; rfl, cx.left.fst⟩) (fun h => absurd (by simpa using h) h2)
  · have h0 : (analyzeD l c).2.2 = 0 := by rw [h1]
    rw [h0]
    clear cx
    generalize (analyzeD l c).1 = acc at *
    have hal := han.len
    have hle := han.le
    refine Br.intro (fun h => by simp at h) (fun _ => Br.intro (fun h => absurd (by simp [hal]) (of_decide_eq_true h)) (fun _ => ?_))
    refine exI_mk (fun n R' Φ' k => ∃ j : Nat, n = j ∧ j ≤ l.length ∧ R' = R ∧ Φ' = (fun M w => Φ M w ∧ Sl M w p20 acc) ∧ k = l.length - j) ⟨⟨R, _, _, inferInstance, fun w F c => c, 0, rfl, Nat.zero_le _, rfl, rfl, rfl⟩, ?_⟩
    rintro n R1 Φ1 k _ ⟨j, rfl, hj, rfl, rfl, rfl⟩
    refine Br.intro (fun hlt => fun w F cx => ?_) (fun hge => fun w F cx => ⟨rfl, cx.left.fst⟩)
    have hlt : j < l.length := by have : j < acc.length := by simpa using hlt
                                  omega
    obtain ⟨b2, o2, rfl⟩ := hth (by omega)
    have hpb := hp (by omega)
    obtain ⟨law1, law2, law3⟩ := paths_law han hlt
    have hins := han.ins hlt
    have hg2 : ∀ M w, (Φ M w ∧ Sl M w (some ⟨b2, o2, none⟩) acc) → RowAt w b2 (o2 + j * 4) (acc.getD j default).cells := fun M w h => acc_row h.2 (by omega)
    refine (path_pin p0P p0N p0C p cap l c acc han j hlt b o cs hp (fun M w h => hΦ M w h.1)).use cx fun w cx => ⟨_, _, rfl, R1, _, inferInstance, cx, fun w F cx => ?_⟩
    obtain ⟨x, hrow, hlike, h1, h15, hsub, _⟩ := node_at hΦ (cx.fst) j hlt
    have hthx := (hsub _ _ cx.phi.1).there
    refine ⟨by omega, ptrK_intro b2 o2 rfl ⟨_, hg2 _ _ cx.phi 0 (by simp), fun _ => by omega, ptrK_intro b2 o2 rfl ⟨_, fun _ => hg2 _ _ cx.phi 1 (by simp), fun _ => by omega, ptrK_intro b2 o2 rfl ⟨_, fun _ => hg2 _ _ cx.phi 2 (by simp), fun _ => by omega, ptrK_intro b2 o2 rfl ⟨_, fun _ => hg2 _ _ cx.phi 3 (by simp),
      fun _ => by omega, ptrK_intro b o hpb ⟨_, fun _ => hrow _ _ cx.phi.1 0 (by simp), ?_⟩⟩⟩⟩⟩⟩
    clear cx
    generalize hy : acc.getD j default = y at *
    rw [hlike.e0]
    refine Br.intro (fun h => ?_) (fun _ => ?_)
    · exfalso
      have e : decide (y.state = 0) = decide (l[j].op ≤ 3) := decide_eq_decide.2 law2
      rw [e] at h
      simp at h
      omega
    refine exI_mk (fun m R' Φ' k => ∃ q : Nat, m = q ∧ q ≤ l[j].inp.length ∧ R' = R1 ∧ Φ' = (fun M w => Φ M w ∧ Sl M w (some ⟨b2, o2, none⟩) acc) ∧ k = l[j].inp.length - q) ⟨⟨R1, _, _, inferInstance, fun w F c => c, 0, rfl, Nat.zero_le _, rfl, rfl, rfl⟩, ?_⟩
    rintro m R2 Φ2 k _ ⟨q, rfl, hq, rfl, rfl, rfl⟩
    refine ⟨by omega, ptrK_intro b o hpb fun w F cx => ⟨_, _, _, hrow _ _ cx.phi.1 1 (by simp), ?_⟩⟩
    rw [h1]
    refine Br.intro (fun hq' => ?_) (fun hq' => ?_)
    · have hq' : q < l[j].inp.length := by simpa using hq'
      obtain ⟨bb, oo, hbo⟩ := hthx (by omega)
      have hi := hins l[j].inp[q] (List.getElem_mem hq')
      obtain ⟨g1, g2, g3⟩ := law3 q hq'
      refine ⟨by omega, ptrK_intro b o hpb fun w F cx => ⟨_, _, _, hrow _ _ cx.phi.1 1 (by simp), by rw [h1]; omega, ptrK_intro bb oo hbo fun w F cx => ⟨l[j].inp[q], sl_int (hbo ▸ hsub _ _ cx.phi.1) hq', by omega, ptrK_intro b2 o2 rfl fun w F cx => ⟨_, _, _, _, acc_row (i := l[j].inp[q].toNat) cx.phi.2 (by omega),
        fun _ w F cx => ⟨by omega, ptrK_intro b2 o2 rfl ⟨_, hg2 _ _ cx.phi 0 (by simp), fun _ => by omega, ptrK_intro b2 o2 rfl ⟨_, fun _ => hg2 _ _ cx.phi 1 (by simp), fun _ => by omega, ptrK_intro b2 o2 rfl ⟨_, fun _ => hg2 _ _ cx.phi 2 (by simp), fun _ => by omega, ptrK_intro b o hpb ⟨_, fun _ => hrow _ _ cx.phi.1 0 (by simp), ?_⟩⟩⟩⟩⟩⟩⟩⟩⟩
      generalize acc.getD l[j].inp[q].toNat default = z at *
      rw [hlike.e0]
      refine Br.intro (fun h => ?_) (fun _ => ⟨by unfold I64; have := han.num hlt; have := kIn_bd l[j].op; omega, R2, _, l[j].inp.length - (q + 1), inferInstance, fun w F c => c, ⟨q + 1, rfl, hq', rfl, rfl, rfl⟩, by omega⟩)
      exfalso
      simp at h
      rcases h with (h | h) | ⟨h, h'⟩
      · omega
      · omega
      · obtain ⟨k1, k2⟩ := g3 h
        rcases h' with h' | h'
        · exact h' k1
        · exact k2 (by omega)
    · exact ⟨by unfold I64; omega, R2, _, l.length - (j + 1), inferInstance, fun w F c => c, ⟨j + 1, rfl, hlt, rfl, rfl, rfl⟩, by omega⟩

theorem Paths_in {Φ : PW} [Stable Φ] (p0P : Option Addr) (p0N p0C : Nat) (p : Option Addr) (cap : Nat) (l : List NodeD) (c : CfgC) (hsl : ∀ M w, Φ M w → Sl M w p l) (hlen : l.length ≤ 9223372036854775807) :
    GivesIn Φ Try.prog F.erratalaw20_BoundsPaths #[.agg #[.slice p0P p0N p0C, .slice p l.length cap], c.v] (.bool true) :=
  .pinned hsl fun b o cs hp => Paths_pin _ _ _ _ _ _ _ b o cs hp (fun _ _ h => h.2) (fun _ _ h => hsl _ _ h.1) hlen

end Go.Proofs.Ytflanndhfdfemaa
