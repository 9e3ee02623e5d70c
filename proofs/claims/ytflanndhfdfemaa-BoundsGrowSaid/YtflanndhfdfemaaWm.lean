/-
  BoundsGrow: the walk.
-/
import Derived.Test.YtflanndhfdfemaaWl
import Derived.Test.YtflanndhfdfemaaBb
set_option linter.unusedVariables false
set_option linter.unusedSimpArgs false
namespace Go.Proofs.Ytflanndhfdfemaa
open Go.Vc

theorem subPtr_zero (p : Option Addr) (s m : Nat) : subPtr p s 0 m = p := by
  unfold subPtr
  split
  · rfl
  · cases p with
    | none => rfl
    | some a => simp [Addr.add]

theorem Sl.take {α : Type} [Gv α] {M : List Nat} {w : World} {p : Option Addr} {l : List α} (h : Sl M w p l) (k : Nat) : Sl M w p (l.take k) := fun j hj => by
  have hj' : j < l.length := by simp at hj; omega
  rw [List.getElem_take]
  exact h j hj'

/-- the end of the formula -/
def GrowTail (p0P : Option Addr) (p0N p0C : Nat) (p1P : Option Addr) (p1N p1C : Nat) (c : CfgC) (n k22 : Nat) (p20 : Option Addr) (W : World) (R0 : List Own) (Ψ : PW) (J : Value → World → Prop) : Prop :=
  (I64 ((↑p1N : Int) - 1) ∧ (0 ≤ (↑p1N : Int) - 1 ∧ (↑p1N : Int) - 1 ≤ (↑p1C : Int)) ∧ ∀ (k141 : Nat), (∀ (R142 : List Nat) (w143 : World), Ψ R142 w143 → Ψ R142 w143) ∧ ∀ (w144 : World) (R145
  : List Own), Ctx W w144 (Own.blk k141 [Value.slice none 0 0, Value.slice none 0 0] 25 :: R0 ++ R145) Ψ → CanWrite w144 k141 0 2 ∧ ∀ (w146 : World), w146 = w144.setCells k141 0 [Value.slice
  p0P p0N p0C, Value.slice p1P ((↑p1N : Int) - 1).toNat p1C] → ∃ (R147 : List Own), ∃ (Φ148 : PW), Stable Φ148 ∧ Ctx W w146 (R147 ++ R145) Φ148 ∧ ∀ (w149 : World) (R150 : List Own), Ctx W
  w149 (R147 ++ R150) Φ148 → ∃ (p151 : Option Addr), ∃ (k152 : Nat), ∃ (k153 : Nat), ∃ (p154 : Option Addr), ∃ (k155 : Nat), ∃ (k156 : Nat), RowAt w149 k141 0 [Value.slice p151 k152 k153,
  Value.slice p154 k155 k156] ∧ ∀ (w157 : World) (R158 : List Own), Ctx W w157 (R147 ++ R158) Φ148 → Calls Try.prog F.bounds_Analyze #[Value.agg #[Value.slice p151 k152 k153, Value.slice p154
  k155 k156], Value.agg #[Value.int IntKind.i64 c.parts, Value.int IntKind.i64 c.delay, Value.int IntKind.i64 c.late, Value.int IntKind.i64 c.ahead, Value.int IntKind.i64 c.rate, Value.int
  IntKind.i64 c.span]] w157 fun (e159 : Ending) (w160 : World) => ∃ (p161 : Option Addr), ∃ (k162 : Nat), ∃ (k163 : Nat), ∃ (n164 : Int), ∃ (n165 : Int), e159 = Ending.returned (Value.tuple
  #[Value.slice p161 k162 k163, Value.int IntKind.i64 n164, Value.int IntKind.i64 n165]) ∧ ∃ (R166 : List Own), ∃ (Φ167 : PW), Stable Φ167 ∧ Ctx W w160 (R166 ++ R158) Φ167 ∧ Br true (Br
  (decide (n165 = 0)) (I64 ((↑n : Int) - 1) ∧ (0 ≤ (↑n : Int) - 1 ∧ (↑n : Int) - 1 ≤ (↑k22 : Int)) ∧ ∀ (w168 : World) (R169 : List Own), Ctx W w168 (R166 ++ R169) Φ167 → Calls Try.prog
  F.errataref20_Same #[Value.slice p161 k162 k163, Value.slice p20 ((↑n : Int) - 1).toNat k22] w168 fun (e170 : Ending) (w171 : World) => ∃ (c172 : Bool), e170 = Ending.returned (Value.bool
  c172) ∧ ∃ (R173 : List Own), ∃ (Φ174 : PW), Stable Φ174 ∧ Ctx W w171 (R173 ++ R169) Φ174 ∧ ∀ (w175 : World) (R176 : List Own), Ctx W w175 (R173 ++ R176) Φ174 → J (Value.bool c172) w175) (∀
  (w177 : World) (R178 : List Own), Ctx W w177 (R166 ++ R178) Φ167 → J (Value.bool false) w177)) (∀ (w179 : World) (R180 : List Own), Ctx W w179 (R166 ++ R180) Φ167 → J (Value.bool false)
  w179))

set_option maxRecDepth 100000 in
theorem Grow_in {Φ : PW} [Stable Φ] (p0P : Option Addr) (p0N p0C : Nat) (p : Option Addr) (cap : Nat) (l : List NodeD) (c : CfgC) (parts rate span : Int) (hsl : ∀ M w, Φ M w → Sl M w p l) (hlen : l.length ≤ 9223372036854775807) (hcap : l.length ≤ cap) :
    GivesIn Φ Try.prog F.erratalaw20_BoundsGrow #[.agg #[.slice p0P p0N p0C, .slice p l.length cap], c.v, .int .i64 parts, .int .i64 rate, .int .i64 span] (.bool true) := by
  refine gives_in (Berratalaw20_BoundsGrow_run p0P p0N p0C p l.length cap c.parts c.delay c.late c.ahead c.rate c.span parts rate span) fun W R => ?_
  have done : ∀ w F, Ctx W w (R ++ F) Φ → (Value.bool true = .bool true ∧ Ctx W w R Φ) := fun w F cx => ⟨rfl, cx.left⟩
  refine fun _ _ w F cx => small_g.in.use cx fun w cx => ⟨_, rfl, _, _, inferInstance, cx, fun w F cx => (few_in _ _ _ _ _ _ hsl hlen).use cx fun w cx => ⟨_, rfl, _, _, inferInstance, cx, Br.intro (fun _ => done) (fun hfew => Br.intro (fun _ => done) (fun hp1 => Br.intro (fun _ => done) (fun hp2 =>
    Br.intro (fun _ => done) (fun hr1 => Br.intro (fun _ => done) (fun hr2 => Br.intro (fun _ => done) (fun hs1 => Br.intro (fun _ => done) (fun hs2 => fun w F cx => (Analyze_in _ _ _ _ _ _ c hsl hlen).use cx fun p20 k22 w h22 hm22 cx => ?_)))))))⟩⟩
  have hp1 : ¬ parts < 0 := by simpa using hp1
  have hp2 : ¬ 8 < parts := by simpa using hp2
  have hr1 : ¬ rate < 0 := by simpa using hr1
  have hr2 : ¬ 20 < rate := by simpa using hr2
  have hs1 : ¬ span < 0 := by simpa using hs1
  have hs2 : ¬ 30000 < span := by simpa using hs2
  have hth := cx.phi.2.there
  refine ⟨p20, _, k22, _, _, rfl, R, fun M w => Φ M w ∧ Sl M w p20 (analyzeD l c).1, inferInstance, cx, ?_⟩
  rcases analyze_cases l c with ⟨h1, h2⟩ | ⟨h1, han⟩
  · refine Br.intro (fun _ => fun w F cx => ⟨rfl, cx.left.fst⟩) (fun h => absurd (by simpa using h) h2)
  · have h0 : (analyzeD l c).2.2 = 0 := by rw [h1]
    rw [h0]
    clear cx
    have hpre := prefix_law han h1 (k := l.length - 1)
    obtain ⟨acc, hacc⟩ : ∃ a, a = (analyzeD l c).1 := ⟨_, rfl⟩
    rw [← hacc] at han hpre hth h22 ⊢
    have hal := han.len
    have hle := han.le
    have hcb := cfg_bd han.cfg
    refine Br.intro (fun h => by simp at h) (fun _ => fun _ => ⟨by unfold I64; omega, by unfold I64; omega, by unfold I64; omega, fun w F cx => ?_⟩)
    refine (Analyze_in (Φ := fun M w => Φ M w ∧ Sl M w p20 acc) p0P p0N p0C p cap l ⟨c.parts + parts, c.delay, c.late, c.ahead, c.rate + rate, c.span + span⟩ (fun _ _ h => hsl _ _ h.1) hlen).use cx fun p45 k47 w h45 _ cx => ?_
    have hth2 := cx.phi.2.there
    refine ⟨p45, _, k47, _, _, rfl, R, fun M w => (Φ M w ∧ Sl M w p20 acc) ∧ Sl M w p45 (analyzeD l ⟨c.parts + parts, c.delay, c.late, c.ahead, c.rate + rate, c.span + span⟩).1, inferInstance, cx, ?_⟩
    clear cx
    have hcases := analyze_cases l ⟨c.parts + parts, c.delay, c.late, c.ahead, c.rate + rate, c.span + span⟩
    generalize (analyzeD l ⟨c.parts + parts, c.delay, c.late, c.ahead, c.rate + rate, c.span + span⟩).1 = acc' at *
    generalize (analyzeD l ⟨c.parts + parts, c.delay, c.late, c.ahead, c.rate + rate, c.span + span⟩).2 = q' at *
    obtain ⟨n', e'⟩ := q'
    rw [subPtr_zero, subPtr_zero]
    have fin : ∀ Ψ : PW, Stable Ψ → (∀ M w, Ψ M w → Φ M w ∧ Sl M w p20 acc) → Br (decide ((acc.length : Int) < 2)) (∀ w F, Ctx W w (R ++ F) Ψ → (Value.bool true = .bool true ∧ Ctx W w R Φ)) (GrowTail p0P p0N p0C p l.length cap c acc.length k22 p20 W R Ψ fun u w => u = .bool true ∧ Ctx W w R Φ) := by
      intro Ψ hS hΨ
      haveI := hS
      refine Br.intro (fun _ => fun w F cx => ⟨rfl, (cx.weak fun M w h => (hΨ M w h).1).left⟩) (fun h2 => ?_)
      have h2 : ¬ (acc.length : Int) < 2 := by simpa using h2
      have hq := hpre (by omega) (by omega)
      unfold GrowTail
      rw [show ((l.length : Int) - 1).toNat = (l.take (l.length - 1)).length by rw [List.length_take]; omega, show ((acc.length : Int) - 1).toNat = (acc.take (l.length - 1)).length by rw [List.length_take]; omega]
      refine ⟨by unfold I64; omega, by omega, fun k99 => ⟨fun _ _ h => h, fun w F cx => ⟨cx.can 0 rfl (by simp), fun w' e => ?_⟩⟩⟩
      refine ⟨.blk k99 [.slice p0P p0N p0C, .slice p (l.take (l.length - 1)).length cap] 25 :: R, Ψ, hS, cx.puts 0 e rfl, fun w F cx => ⟨_, _, _, _, _, _, cx.row0 0 rfl, fun w F cx => ?_⟩⟩
      have hA := Analyze_in (Φ := Ψ) p0P p0N p0C p cap (l.take (l.length - 1)) c (fun M w h => Sl.take (hsl _ _ (hΨ M w h).1) _) (by rw [List.length_take]; omega)
      rw [hq] at hA
      refine hA.use cx fun p119 k121 w h121 _ cx => ⟨p119, _, k121, _, _, rfl, R, fun M w => Ψ M w ∧ Sl M w p119 (acc.take (l.length - 1)), instStableAnd Ψ (fun M w => Sl M w p119 (acc.take (l.length - 1))), cx.drop1, Br.intro (fun _ => Br.intro (fun _ => ⟨by unfold I64; omega, by omega, fun w F cx => ?_⟩) (fun h => by simp at h)) (fun h => by simp at h)⟩
      have hB := Same_in (Φ := fun M w => Ψ M w ∧ Sl M w p119 (acc.take (l.length - 1))) p119 k121 p20 k22 (acc.take (l.length - 1)) (acc.take (l.length - 1)) (fun _ _ h => h.2) (fun M w h => Sl.take (hΨ M w h.1).2 _) (by rw [List.length_take]; omega)
      refine hB.use cx fun w cx => ⟨_, rfl, R, _, inferInstance, cx, fun w F cx => ⟨by simp [sameB], (cx.weak fun M w h => (hΨ M w h.1).1).left⟩⟩
    refine Br.intro (fun hf => ?_) (fun hf => ?_)
    · have hf : e' = 0 := by simpa using hf
      have han' : AnOk l ⟨c.parts + parts, c.delay, c.late, c.ahead, c.rate + rate, c.span + span⟩ acc' := by
        rcases hcases with ⟨_, h⟩ | ⟨_, h⟩
        · exact absurd hf h
        · exact h
      have hal' := han'.len
      have law := grow_law han han' ⟨by show _ ≤ _ + _; omega, by show _ ≤ _ + _; omega, by show _ ≤ _ + _; omega⟩
      refine Br.intro (fun h => absurd (by omega) (of_decide_eq_true h)) (fun _ => ?_)
      refine exI_mk (fun n R' Φ' k => ∃ j : Nat, n = j ∧ j ≤ l.length ∧ R' = R ∧ Φ' = (fun M w => (Φ M w ∧ Sl M w p20 acc) ∧ Sl M w p45 acc') ∧ k = l.length - j) ⟨⟨R, _, _, inferInstance, fun w F c => c, 0, rfl, Nat.zero_le _, rfl, rfl, rfl⟩, ?_⟩
      rintro n R1 Φ1 k _ ⟨j, rfl, hj, rfl, rfl, rfl⟩
      refine Br.intro (fun hlt => fun w F cx => ?_) (fun hge => ?_)
      · have hlt : j < l.length := by have : j < acc.length := by simpa using hlt
                                      omega
        obtain ⟨b2, o2, hb2⟩ := hth (by omega)
        obtain ⟨b3, o3, hb3⟩ := hth2 (by omega)
        subst hb2
        subst hb3
        have r2 := acc_row cx.phi.1.2 (i := j) (by omega)
        have r3 := acc_row cx.phi.2 (i := j) (by omega)
        obtain ⟨l1, l2, l3, l4⟩ := law j hlt
        refine ⟨by omega, ptrK_intro b2 o2 rfl ⟨_, r2 0 (by simp), by omega, ptrK_intro b3 o3 rfl ⟨_, r3 0 (by simp), fun _ => by omega, ptrK_intro b2 o2 rfl ⟨_, fun _ => r2 1 (by simp), fun _ => by omega, ptrK_intro b3 o3 rfl ⟨_, fun _ => r3 1 (by simp), fun _ => by omega, ptrK_intro b2 o2 rfl ⟨_, fun _ => r2 2 (by simp),
          fun _ => by omega, ptrK_intro b3 o3 rfl ⟨_, fun _ => r3 2 (by simp), fun _ => by omega, ptrK_intro b2 o2 rfl ⟨_, fun _ => r2 3 (by simp), fun _ => by omega, ptrK_intro b3 o3 rfl ⟨_, fun _ => r3 3 (by simp), ?_⟩⟩⟩⟩⟩⟩⟩⟩⟩
        refine Br.intro (fun h => ?_) (fun _ => ⟨by unfold I64; omega, R1, _, l.length - (j + 1), inferInstance, fun w F c => c, ⟨j + 1, rfl, hlt, rfl, rfl, rfl⟩, by omega⟩)
        exfalso
        clear r2 r3
        generalize acc.getD j default = y at *
        generalize acc'.getD j default = y' at *
        simp at h
        omega
      · refine fin _ (inferInstance : Stable (fun M w => (Φ M w ∧ Sl M w p20 acc) ∧ Sl M w p45 acc')) (fun _ _ h => h.1)
    · refine fin _ (inferInstance : Stable (fun M w => (Φ M w ∧ Sl M w p20 acc) ∧ Sl M w p45 acc')) (fun _ _ h => h.1)

end Go.Proofs.Ytflanndhfdfemaa
