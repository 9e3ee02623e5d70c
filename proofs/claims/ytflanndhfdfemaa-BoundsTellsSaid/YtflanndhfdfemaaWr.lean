/-
  The walks of the reference's rate, state, Well.
-/
import Derived.Test.YtflanndhfdfemaaWq
import Derived.Test.YtflanndhfdfemaaWl
set_option linter.unusedVariables false
set_option linter.unusedSimpArgs false
namespace Go.Proofs.Ytflanndhfdfemaa
open Go.Vc

theorem rtimesI_q (a b : Int) (ha : 0 ≤ a) (hb : 0 ≤ b) : Quiet Try.prog F.errataref20_times #[.int .i64 a, .int .i64 b] (.int .i64 (timesI a b)) := by
  rw [timesI_min ha hb]; exact rtimes_q a b ha hb
theorem rtimesI_g (a b : Int) (ha : 0 ≤ a) (hb : 0 ≤ b) : Gives Try.prog F.errataref20_times #[.int .i64 a, .int .i64 b] (.int .i64 (timesI a b)) := (rtimesI_q a b ha hb).gives

theorem ins_get {inp : List Int} {l : List BndD} {q : Nat} (hq : q < inp.length) : (insD inp l).getD q default = l.getD inp[q].toNat default := by
  rw [List.getD_eq_getElem?_getD, List.getElem?_eq_getElem (by simpa [insD] using hq)]; simp [insD]

theorem getD_ok {l : List BndD} (hok : ∀ y ∈ l, y.Ok) (i : Nat) : (l.getD i default).Ok := getD_of (p := BndD.Ok) hok ⟨by decide, by decide, by decide, by decide⟩ i

set_option maxRecDepth 100000 in
theorem rrate_in {Φ : PW} [Stable Φ] (x : NodeC) (inp : List Int) (l : List BndD) (lp : Option Addr) (cap : Nat) (c : CfgC) (hc : cfgB c = true) (hn : x.n1N = inp.length) (hk : (x.n1N : Int) = kIn x.n0) (hb : boundedB x = true)
    (hin : ∀ M w, Φ M w → Sl M w x.n1P inp) (hl : ∀ M w, Φ M w → Sl M w lp l) (hr : ∀ i ∈ inp, 0 ≤ i ∧ i < l.length) (hok : ∀ y ∈ l, y.Ok) :
    GivesIn Φ Try.prog F.errataref20_rate #[x.v, .slice lp l.length cap, c.v] (.int .i64 (rateI x (insD inp l) c)) := by
  refine .there (fun M w h => (hin M w h).there) fun htin => .there (fun M w h => (hl M w h).there) fun htl => ?_
  refine gives_in (Berrataref20_rate_run x.n0 x.n1P x.n1N x.n1C x.n2 x.n3 x.n4P x.n4N x.n4C x.n5 x.n6 x.n7 x.n8P x.n8N x.n8C x.n9P x.n9N x.n9C x.n10 x.n11 x.n12 x.n13P x.n13N x.n13C x.n14P x.n14N x.n14C x.n15P x.n15N x.n15C lp l.length cap c.parts c.delay c.late c.ahead c.rate c.span) fun W R => ?_
  obtain ⟨hc1, hc2, hc3, hc4⟩ := cfg_bd hc
  have hw := bounded_op hb
  have n0le : 0 ≤ x.n0 ∧ x.n0 ≤ 8 := by simpa [win] using hw
  have hmul : 0 ≤ c.parts * c.rate ∧ c.parts * c.rate ≤ 8 * 20 := ⟨Int.mul_nonneg (by omega) (by omega), Int.mul_le_mul hc1.2 hc3.2 (by omega) (by omega)⟩
  have hkin : kIn x.n0 = if x.n0 = 0 then 0 else if x.n0 = 3 ∨ x.n0 = 6 ∨ x.n0 = 7 then 2 else 1 := rfl
  unfold rateI
  refine fun _ _ => Br.intro (fun h0 => ?_) (fun h0 => ?_)
  · have h0 : x.n0 = 0 := by simpa using h0
    rw [if_pos h0]
    exact ⟨by unfold I64; omega, fun w F c => ⟨rfl, c.left⟩⟩
  have h0 : ¬ x.n0 = 0 := by simpa using h0
  rw [if_neg h0]
  rw [if_neg h0] at hkin
  have hi0 : 0 < inp.length := by split at hkin <;> omega
  obtain ⟨b1, o1, hp1⟩ := htin hi0
  have hr0 := hr inp[0] (List.getElem_mem hi0)
  obtain ⟨b2, o2, hp2⟩ := htl (by omega)
  subst hp2
  have g0 := (getD_ok hok inp[0].toNat).r
  have e0 := ins_get (l := l) hi0
  rw [e0]
  have rd : ∀ q, (hq : q < inp.length) → ∀ W w S, Ctx W w S Φ → w.cell? ⟨b1, o1 + q, none⟩ = some (.int .i64 inp[q]) := fun q hq W w S cx => sl_int (hp1 ▸ hin _ _ cx.phi) hq
  have rl : ∀ q, (hq : q < inp.length) → ∀ W w S, Ctx W w S Φ → RowAt w b2 (o2 + inp[q].toNat * 4) (l.getD inp[q].toNat default).cells := fun q hq W w S cx => acc_row (hl _ _ cx.phi) (by have := hr _ (List.getElem_mem hq); omega)
  refine ⟨by omega, ptrK_intro b1 o1 hp1 fun w G cx => ⟨_, rd 0 hi0 _ _ _ cx, by omega, ptrK_intro b2 o2 rfl fun w G cx => ⟨_, rl 0 hi0 _ _ _ cx 2 (by simp), ?_⟩⟩⟩
  clear cx
  refine Br.intro (fun h3 => ?_) (fun h3 => ?_)
  · have h3 : x.n0 = 3 := by simpa using h3
    rw [if_pos h3]
    rw [if_pos (.inl h3)] at hkin
    have hi1 : 1 < inp.length := by omega
    have hr1 := hr inp[1] (List.getElem_mem hi1)
    have g1 := (getD_ok hok inp[1].toNat).r
    rw [ins_get (l := l) hi1]
    exact ⟨by omega, ptrK_intro b1 o1 hp1 fun w F cx => ⟨_, rd 1 hi1 _ _ _ cx, by omega, ptrK_intro b2 o2 rfl fun w F cx => ⟨_, rl 1 hi1 _ _ _ cx 2 (by simp), by unfold I64; show -9223372036854775808 ≤ (l.getD inp[0].toNat default).rate + (l.getD inp[1].toNat default).rate ∧ (l.getD inp[0].toNat default).rate + (l.getD inp[1].toNat default).rate ≤ 9223372036854775807; omega, fun w F c => ⟨rfl, c.left⟩⟩⟩⟩
  have h3 : ¬ x.n0 = 3 := by simpa using h3
  rw [if_neg h3]
  have six : x.n0 = 6 → ∀ J : Value → World → Prop, (∀ w G, Ctx W w (R ++ G) Φ → J (.int .i64 (timesI (timesI (l.getD inp[0].toNat default).rate ((insD inp l).getD 1 default).rate) (x.n10 + x.n11 + 2))) w) → ∀ w G, Ctx W w (R ++ G) Φ →
      (((0 : Int) ≤ 1 ∧ 1 < (x.n1N : Int)) ∧ ptrK none x.n1P fun k35 k36 => ∃ n37 : Int, w.cell? (Addr.mk k35 k36.succ none) = some (Value.int .i64 n37) ∧ (0 ≤ n37 ∧ n37 < (l.length : Int)) ∧ ptrK none (some (Addr.mk b2 o2 none)) fun k38 k39 => ∃ n40 : Int, w.cell? (Addr.mk k38 (k39 + n37.toNat * 4 + 2) none) = some (Value.int .i64 n40) ∧
        ∃ n41 : Int, (∀ w42 : World, (∃ k43, w42 = w.drewN k43) → Calls Try.prog F.errataref20_times #[Value.int .i64 (l.getD inp[0].toNat default).rate, Value.int .i64 n40] w42 fun (e44 : Ending) (w45 : World) => e44 = .returned (Value.int .i64 n41) ∧ ∃ k46, w45 = w.drewN k46) ∧ I64 (x.n10 + x.n11) ∧ I64 (x.n10 + x.n11 + 2) ∧
        ∃ n47 : Int, (∀ w48 : World, (∃ k49, w48 = w.drewN k49) → Calls Try.prog F.errataref20_times #[Value.int .i64 n41, Value.int .i64 (x.n10 + x.n11 + 2)] w48 fun (e50 : Ending) (w51 : World) => e50 = .returned (Value.int .i64 n47) ∧ ∃ k52, w51 = w.drewN k52) ∧ ∀ (w53 : World) (R54 : List Own), Ctx W w53 (R ++ R54) Φ → J (Value.int .i64 n47) w53) := by
    intro h6 J hJ w G cx
    rw [if_pos (.inr (.inl h6))] at hkin
    have hi1 : 1 < inp.length := by omega
    have hr1 := hr inp[1] (List.getElem_mem hi1)
    have g1 := (getD_ok hok inp[1].toNat).r
    have k6 := bounded_n10 hb h6
    rw [ins_get (l := l) hi1] at hJ
    have kt := timesI_bd g0.1 g1.1
    exact ⟨by omega, ptrK_intro b1 o1 hp1 ⟨_, rd 1 hi1 _ _ _ cx, by omega, ptrK_intro b2 o2 rfl ⟨_, rl 1 hi1 _ _ _ cx 2 (by simp), _, fun w42 hw => (rtimesI_q _ _ g0.1 g1.1).atN hw, by unfold I64; omega, by unfold I64; omega, _, fun w48 hw => (rtimesI_q _ _ kt.1 (by omega)).atN hw, hJ⟩⟩⟩
  refine Br.intro (fun h4 => Br.intro (fun _ => ?_) (fun h => absurd h4 (by simp [h]))) (fun h4 => Br.intro (fun h5 => ?_) (fun h5 => Br.intro (fun h6 => ?_) (fun h6 => ?_)))
  · have h4 : x.n0 = 4 := by simpa using h4
    have k6 := bounded_n6 hb (.inl h4)
    rw [if_pos (.inl h4)]
    exact fun w F cx => (rtimesI_g _ _ g0.1 (by omega)).in.use cx fun w cx => ⟨_, rfl, _, _, inferInstance, cx, fun w F c => ⟨rfl, c.left⟩⟩
  · have h5 : x.n0 = 5 := by simpa using h5
    have k6 := bounded_n6 hb (.inr h5)
    rw [if_pos (.inr h5)]
    exact fun w F cx => (rtimesI_g _ _ g0.1 (by omega)).in.use cx fun w cx => ⟨_, rfl, _, _, inferInstance, cx, fun w F c => ⟨rfl, c.left⟩⟩
  · have h6 : x.n0 = 6 := by simpa using h6
    rw [if_neg (by omega), if_pos h6]
    exact six h6 (fun u w' => u = .int .i64 (timesI (timesI (l.getD inp[0].toNat default).rate ((insD inp l).getD 1 default).rate) (x.n10 + x.n11 + 2)) ∧ Ctx W w' R Φ) fun w G c => ⟨rfl, c.left⟩
  · have h4 : ¬ x.n0 = 4 := by simpa using h4
    have h5 : ¬ x.n0 = 5 := by simpa using h5
    have h6 : ¬ x.n0 = 6 := by simpa using h6
    rw [if_neg (by omega), if_neg h6]
    exact fun w F c => ⟨rfl, c.left⟩

/-- the state alone -/
def stI (x : NodeC) (ys : List BndD) (c : CfgC) : Int := (foldI x ys c).2.2

theorem st_fold (span back : Int) : ∀ (ys : List BndD) (a : Int × Int × Int), (ys.foldl (stepB true span back) a).2.2 = ys.foldl (fun s y => plusI s (timesI y.rate (span + y.fore + back))) a.2.2
  | [], _ => rfl
  | y :: r, a => by rw [List.foldl_cons, List.foldl_cons, st_fold span back r]; rfl

set_option maxRecDepth 100000 in
theorem rstate_in {Φ : PW} [Stable Φ] (x : NodeC) (inp : List Int) (l : List BndD) (lp : Option Addr) (cap : Nat) (c : CfgC) (hc : cfgB c = true) (hn : x.n1N = inp.length) (hlen : inp.length ≤ 1000) (hb : boundedB x = true)
    (hin : ∀ M w, Φ M w → Sl M w x.n1P inp) (hl : ∀ M w, Φ M w → Sl M w lp l) (hr : ∀ i ∈ inp, 0 ≤ i ∧ i < l.length) (hok : ∀ y ∈ l, y.Ok) :
    GivesIn Φ Try.prog F.errataref20_state #[x.v, .slice lp l.length cap, c.v] (.int .i64 (stI x (insD inp l) c)) := by
  refine .there (fun M w h => (hin M w h).there) fun htin => .there (fun M w h => (hl M w h).there) fun htl => ?_
  refine gives_in (Berrataref20_state_run x.n0 x.n1P x.n1N x.n1C x.n2 x.n3 x.n4P x.n4N x.n4C x.n5 x.n6 x.n7 x.n8P x.n8N x.n8C x.n9P x.n9N x.n9C x.n10 x.n11 x.n12 x.n13P x.n13N x.n13C x.n14P x.n14N x.n14C x.n15P x.n15N x.n15C lp l.length cap c.parts c.delay c.late c.ahead c.rate c.span) fun W R => ?_
  obtain ⟨hc1, hc2, hc3, hc4⟩ := cfg_bd hc
  have ho := own_bd x
  have hkk : kKeeps x.n0 = decide (4 ≤ x.n0) := rfl
  unfold stI foldI
  rw [hkk]
  refine fun _ _ => Br.intro (fun h3 => fun w F c => ⟨?_, c.left⟩) (fun h3 => ?_)
  · have h3 : x.n0 ≤ 3 := by simpa using h3
    rw [decide_eq_false (by omega), state_none]
  have h3 : ¬ x.n0 ≤ 3 := by simpa using h3
  rw [decide_eq_true (by omega), st_fold]
  have hyl : (insD inp l).length = inp.length := by simp [insD]
  have hyo : ∀ y ∈ insD inp l, y.Ok := fun y hy => by
    obtain ⟨i, _, rfl⟩ := List.mem_map.1 hy
    exact getD_ok hok _
  have hyq : ∀ q, (hq : q < inp.length) → (h : q < (insD inp l).length) → (insD inp l)[q] = l.getD inp[q].toNat default := fun q hq h => by simp [insD]
  generalize insD inp l = ys at *
  have hbd : ∀ (zs : List BndD) (a : Int), 0 ≤ a → a ≤ 1099511627776 → (∀ y ∈ zs, y.Ok) → 0 ≤ zs.foldl (fun s y => plusI s (timesI y.rate (c.span + y.fore + (ownI x).1))) a ∧ zs.foldl (fun s y => plusI s (timesI y.rate (c.span + y.fore + (ownI x).1))) a ≤ 1099511627776 := by
    intro zs
    induction zs with
    | nil => intro a h1 h2 _; exact ⟨h1, h2⟩
    | cons y r ih =>
      intro a h1 h2 hy
      have ky := hy y (by simp)
      have kf := ky.f
      have t := timesI_bd (a := y.rate) (b := c.span + y.fore + (ownI x).1) ky.r.1 (by omega)
      have p := plusI_bd (a := a) (b := timesI y.rate (c.span + y.fore + (ownI x).1)) h1 t.1
      exact ih _ p.1 p.2 fun z hz => hy z (by simp [hz])
  refine fun w F cx => (rOwn_g x).in.use cx fun w cx => ⟨_, _, rfl, _, _, inferInstance, cx, ?_⟩
  clear cx
  refine exI_mk (fun n16 n17 R' Φ' k => ∃ i : Nat, n17 = i ∧ i ≤ inp.length ∧ R' = R ∧ Φ' = Φ ∧ k = inp.length - i ∧ n16 = (ys.take i).foldl (fun s y => plusI s (timesI y.rate (c.span + y.fore + (ownI x).1))) 0) ⟨⟨R, Φ, _, inferInstance, fun w F c => c, 0, rfl, Nat.zero_le _, rfl, rfl, rfl, rfl⟩, ?_⟩
  rintro n16 n17 R1 Φ1 k _ ⟨i, rfl, hi, rfl, rfl, rfl, hs⟩
  have hb16 := hbd (ys.take i) 0 (by omega) (by omega) fun y hy => hyo y (List.mem_of_mem_take hy)
  rw [← hs] at hb16
  rw [hn]
  refine Br.intro (fun hlt => ?_) (fun hge => fun w F cx => ⟨?_, cx.left⟩)
  · have hlt : i < inp.length := by simpa using hlt
    obtain ⟨b1, o1, hp1⟩ := htin (by omega)
    have hri := hr inp[i] (List.getElem_mem hlt)
    obtain ⟨b2, o2, hp2⟩ := htl (by omega)
    subst hp2
    have hy := hyq i hlt (by omega)
    have ky := hyo _ (List.getElem_mem (show i < ys.length by omega))
    rw [hy] at ky
    have kf := ky.f
    have kt := timesI_bd (a := (l.getD inp[i].toNat default).rate) (b := c.span + (l.getD inp[i].toNat default).fore + (ownI x).1) ky.r.1 (by omega)
    refine ⟨by omega, ptrK_intro b1 o1 hp1 fun w F cx => ⟨_, sl_int (hp1 ▸ hin _ _ cx.phi) hlt, by omega, ptrK_intro b2 o2 rfl fun w F cx => ⟨_, _, _, _, acc_row (hl _ _ cx.phi) (by omega), fun _ => ⟨by unfold I64; omega, by unfold I64; omega, fun w F cx => (rtimesI_g _ _ ky.r.1 (by omega)).in.use cx fun w cx => ⟨_, rfl, R1, Φ1, inferInstance, cx, by unfold I64; omega, by unfold I64; omega,
      R1, Φ1, inp.length - (i + 1), inferInstance, fun w F c => c, ⟨i + 1, rfl, hlt, rfl, rfl, rfl, ?_⟩, by omega⟩⟩⟩⟩⟩
    rw [List.take_succ_eq_append_getElem (by omega), List.foldl_append, ← hs, hy]
    rfl
  · have hge : i = inp.length := Nat.le_antisymm hi (by simpa using hge)
    rw [hs, hge, ← hyl, List.take_length]

end Go.Proofs.Ytflanndhfdfemaa
