/-
  The walks of the reference's comparisons; Equal.
-/
import Derived.Test.YtbkpfhhhbhaecaaGreatDoorLB5
import Derived.Test.YtbkpfhhhbhaecaaGreatDoorLB7
import Derived.Lib.AppendZeros
import Derived.Lib.SliceRun
import Derived.Test.YtbkpfhhhbhaecaaGreatDoorLB6
import Derived.Shelf.Strconv.AtoiAll
import Derived.Shelf.Small.Wraps
import Derived.Stop.IfaceNil
import Derived.Lib.AtoiErrMem
import Derived.Lib.AtoiAllCases

section
set_option linter.unusedVariables false
set_option linter.unusedSimpArgs false
namespace Go.Proofs.YtbkpfhhhbhaecaaGreatDoor
open Go.Vc

theorem bytesLess_cmp : ∀ a b : List UInt8, Op.bytesLess a b = decide (Lib.compareBytes a b < 0)
  | [], [] => by simp [Op.bytesLess, Lib.compareBytes]
  | [], _ :: _ => by simp [Op.bytesLess, Lib.compareBytes]
  | _ :: _, [] => by simp [Op.bytesLess, Lib.compareBytes]
  | a :: ar, b :: br => by
    unfold Op.bytesLess Lib.compareBytes
    rw [bytesLess_cmp ar br]
    by_cases h1 : a < b
    · simp [h1]
    · by_cases h2 : b < a
      · rw [if_neg h1, if_pos h2]
        have : a ≠ b := fun e => by subst e; exact h1 h2
        simp [h1, this]
      · have : a = b := by
          have h1' : ¬ a.toNat < b.toNat := h1
          have h2' : ¬ b.toNat < a.toNat := h2
          exact UInt8.toNat_inj.1 (by omega)
        rw [if_neg h1, if_neg h2]
        simp [this]

theorem compareBytes_zero (a b : List UInt8) : Lib.compareBytes a b = 0 ↔ a = b := bytes_cmp.eq a b
theorem compareBytes_bd (a b : List UInt8) : -1 ≤ Lib.compareBytes a b ∧ Lib.compareBytes a b ≤ 1 := bytes_cmp.bd a b
theorem cmpT_less (a b : ByteArray) : Op.bytesLess a.toList b.toList = decide (cmpT a b < 0) := by rw [bytesLess_cmp, Lib.toList_data, Lib.toList_data]; rfl
theorem cmpT_gtr (a b : ByteArray) : (!(Op.bytesLess a.toList b.toList || a.toList == b.toList)) = decide (0 < cmpT a b) := by
  rw [cmpT_less]
  have h2 : (a.toList == b.toList) = decide (cmpT a b = 0) := by
    rw [Bool.eq_iff_iff, beq_iff_eq, decide_eq_true_eq]
    unfold cmpT
    rw [compareBytes_zero, Lib.toList_data, Lib.toList_data]
  rw [h2]
  by_cases h : cmpT a b < 0
  · simp [h]; omega
  · by_cases h' : cmpT a b = 0
    · simp [h']
    · rw [decide_eq_false h, decide_eq_false h', decide_eq_true (show 0 < cmpT a b by omega)]; rfl

theorem orI_cons (x : Int) (r : List Int) : orI (x :: r) = if x ≠ 0 then x else orI r := rfl

theorem rcmpV_g (x y : ValD) : Gives Tryz.prog F.errataref03_Compare #[x.v, y.v] (.int .i64 (cmpV x y)) := by
  refine gives_of (Berrataref03_Compare_run x.kind x.num x.text y.kind y.num y.text) fun W R Φ _ => ?_
  have h3 := compareBytes_bd x.text.data.toList y.text.data.toList
  unfold cmpV cmpL
  rw [orI_cons, orI_cons, orI_cons]
  refine fun _ _ => Br.intro (fun h => fun w G c => ⟨?_, c.left⟩) (fun h => Br.intro (fun h2 => fun w G c => ⟨?_, c.left⟩) (fun h2 => Br.intro (fun h3 => fun w G c => ⟨?_, c.left⟩) (fun h3 => Br.intro (fun h4 => fun w G c => ⟨?_, c.left⟩) (fun h4 => Br.intro (fun h5 => fun w G c => ⟨?_, c.left⟩) (fun h5 => ⟨_, fun w => by rw [binOp_string_gtr]; rfl, Br.intro (fun h6 => fun w G c => ⟨?_, c.left⟩) (fun h6 => fun w G c => ⟨?_, c.left⟩)⟩)))))
  · have h := of_decide_eq_true h
    have : cmpI x.kind y.kind = -1 := by unfold cmpI; rw [if_pos h]
    rw [this]; rfl
  all_goals have h := of_decide_eq_false h
  · have h2 := of_decide_eq_true h2
    have : cmpI x.kind y.kind = 1 := by unfold cmpI; rw [if_neg h, if_pos h2]
    rw [this]; rfl
  all_goals have h2 := of_decide_eq_false h2
  all_goals have e1 : cmpI x.kind y.kind = 0 := by unfold cmpI; rw [if_neg h, if_neg h2]
  all_goals rw [e1]
  · have h3 := of_decide_eq_true h3
    have : cmpI x.num y.num = -1 := by unfold cmpI; rw [if_pos h3]
    rw [this]; rfl
  all_goals have h3 := of_decide_eq_false h3
  · have h4 := of_decide_eq_true h4
    have : cmpI x.num y.num = 1 := by unfold cmpI; rw [if_neg h3, if_pos h4]
    rw [this]; rfl
  all_goals have h4 := of_decide_eq_false h4
  all_goals have e2 : cmpI x.num y.num = 0 := by unfold cmpI; rw [if_neg h3, if_neg h4]
  all_goals rw [e2]
  · have h5 : Op.bytesLess x.text.toList y.text.toList = true := h5
    rw [cmpT_less] at h5
    have h5 := of_decide_eq_true h5
    have : cmpT x.text y.text = -1 := by have : -1 ≤ cmpT x.text y.text := (compareBytes_bd _ _).1; omega
    rw [this]; rfl
  all_goals have h5 : Op.bytesLess x.text.toList y.text.toList = false := h5
  all_goals rw [cmpT_less] at h5
  all_goals have h5 := of_decide_eq_false h5
  · rw [cmpT_gtr] at h6
    have h6 := of_decide_eq_true h6
    have : cmpT x.text y.text = 1 := by have : cmpT x.text y.text ≤ 1 := (compareBytes_bd _ _).2; omega
    rw [this]; rfl
  · rw [cmpT_gtr] at h6
    have h6 := of_decide_eq_false h6
    have : cmpT x.text y.text = 0 := by omega
    rw [this]; rfl

theorem cmpR_nil {l r : List ValD} {i : Nat} (h : l.length ≤ i) (hr : r.length ≤ i) : cmpR (l.drop i) (r.drop i) = 0 := by
  rw [List.drop_of_length_le h, List.drop_of_length_le hr]; rfl
theorem cmpR_right {l r : List ValD} {i : Nat} (hi : l.length ≤ i) (hr : i < r.length) : cmpR (l.drop i) (r.drop i) = -1 := by
  rw [List.drop_eq_getElem_cons hr, List.drop_of_length_le hi]; rfl

theorem rCompareRows_in {Φ : PW} [Stable Φ] (p q : Option Addr) (cap cap2 : Nat) (l r : List ValD) (hΦ : ∀ M w, Φ M w → Sl M w p l) (hΨ : ∀ M w, Φ M w → Sl M w q r) (hlen : l.length ≤ 9223372036854775807) :
    GivesIn Φ Tryz.prog F.errataref03_CompareRows #[.slice p l.length cap, .slice q r.length cap2] (.int .i64 (cmpR l r)) := by
  refine .there (fun M w h => (hΦ M w h).there) fun hth => .there (fun M w h => (hΨ M w h).there) fun hth2 => ?_
  refine gives_in (Berrataref03_CompareRows_run p l.length cap q r.length cap2) fun W R => ?_
  refine exI_mk (fun n R' Φ' k => ∃ i : Nat, n = i ∧ i ≤ l.length ∧ i ≤ r.length ∧ R' = R ∧ Φ' = Φ ∧ k = l.length - i ∧ cmpR l r = cmpR (l.drop i) (r.drop i)) ⟨⟨R, Φ, _, inferInstance, fun w F c => c, 0, rfl, Nat.zero_le _, Nat.zero_le _, rfl, rfl, rfl, rfl⟩, ?_⟩
  rintro n R1 Φ1 k _ ⟨i, rfl, hi, hr, rfl, rfl, rfl, hcm⟩
  refine fun w G cx => Br.intro (fun hlt => ?_) (fun hge => ?_)
  · rw [Bool.and_eq_true] at hlt
    have hl : i < l.length := by have := of_decide_eq_true hlt.1; omega
    have hr2 : i < r.length := by have := of_decide_eq_true hlt.2; omega
    obtain ⟨b, o, rfl⟩ := hth (by omega)
    obtain ⟨b2, o2, rfl⟩ := hth2 (by omega)
    rw [cmpR_both hl hr2] at hcm
    refine ⟨R1, Φ1, inferInstance, fun _ _ c => c, by omega, ptrK_intro b o rfl ⟨by omega, ptrK_intro b2 o2 rfl ⟨l[i].kind, l[i].num, l[i].text, fun w G cx => ⟨_, _, _, sl_val (hΦ _ _ cx.phi) hl, rfl⟩, r[i].kind, r[i].num, r[i].text, fun w G cx => ⟨_, _, _, sl_val (hΨ _ _ cx.phi) hr2, rfl⟩, fun w G cx => (rcmpV_g l[i] r[i]).use cx fun w cx => ⟨_, rfl, R1, Φ1, inferInstance, cx,
      Br.intro (fun hn => fun w F cx => ⟨?_, cx.left⟩) (fun hn => ⟨by unfold I64; omega, R1, Φ1, l.length - (i + 1), inferInstance, fun w F c => c, ⟨i + 1, rfl, hl, hr2, rfl, rfl, rfl, ?_⟩, by omega⟩)⟩⟩⟩⟩
    · have hn : cmpV l[i] r[i] ≠ 0 := by simpa using hn
      rw [hcm, if_pos hn]
    · have hn : ¬ cmpV l[i] r[i] ≠ 0 := by simpa using hn
      rw [hcm, if_neg hn]
  · have hge : l.length ≤ i ∨ r.length ≤ i := by
      rw [Bool.and_eq_false_iff] at hge
      rcases hge with h | h
      · left; have := of_decide_eq_false h; omega
      · right; have := of_decide_eq_false h; omega
    refine Br.intro (fun h => fun w G cx => ⟨?_, cx.left⟩) (fun h => Br.intro (fun h2 => fun w G cx => ⟨?_, cx.left⟩) (fun h2 => fun w G cx => ⟨?_, cx.left⟩))
    · have h := of_decide_eq_true h
      rw [hcm, cmpR_right (by omega) (by omega)]
    · have h2 := of_decide_eq_true h2
      rw [hcm, cmpR_left (by omega) (by omega)]
    · have h := of_decide_eq_false h
      have h2 := of_decide_eq_false h2
      rw [hcm, cmpR_nil (by omega) (by omega)]

theorem rCompareD_in {Φ : PW} [Stable Φ] (x y : DeltaD) (p q : Option Addr) (cap cap2 : Nat) (hΦ : ∀ M w, Φ M w → Sl M w p x.row) (hΨ : ∀ M w, Φ M w → Sl M w q y.row) (hlen : x.row.length ≤ 9223372036854775807) :
    GivesIn Φ Tryz.prog F.errataref28_Compare #[x.v p cap, y.v q cap2] (.int .i64 (cmpD x y)) := by
  refine gives_in (Berrataref28_Compare_run x.time p x.row.length cap x.n y.time q y.row.length cap2 y.n) fun W R => ?_
  unfold cmpD cmpDL
  rw [orI_cons, orI_cons]
  refine fun _ _ => Br.intro (fun h => fun w G c => ⟨?_, c.left⟩) (fun h => Br.intro (fun h2 => fun w G c => ⟨?_, c.left⟩) (fun h2 => ?_))
  · have h := of_decide_eq_true h
    have : cmpI x.time y.time = -1 := by unfold cmpI; rw [if_pos h]
    rw [this]; rfl
  all_goals have h := of_decide_eq_false h
  · have h2 := of_decide_eq_true h2
    have : cmpI x.time y.time = 1 := by unfold cmpI; rw [if_neg h, if_pos h2]
    rw [this]; rfl
  have h2 := of_decide_eq_false h2
  have e1 : cmpI x.time y.time = 0 := by unfold cmpI; rw [if_neg h, if_neg h2]
  rw [e1]
  refine fun w G cx => (rCompareRows_in p q cap cap2 x.row y.row hΦ hΨ hlen).use cx fun w cx => ⟨_, rfl, R, Φ, inferInstance, cx, fun w G cx => ⟨?_, cx.left⟩⟩
  by_cases h0 : cmpR x.row y.row = 0
  · rw [h0]; rfl
  · rw [if_neg (by omega), if_pos h0]

/-! ### Equal -/
theorem Equal_pin {Φ : PW} [Stable Φ] (p : Option Addr) (cap : Nat) (a : List DeltaD) (q : Option Addr) (cap2 : Nat) (b : List DeltaD) (g1 o1 : Nat) (cs1 : List (List Value)) (g2 o2 : Nat) (cs2 : List (List Value)) (hp : 0 < a.length → p = some ⟨g1, o1, none⟩) (hq : 0 < b.length → q = some ⟨g2, o2, none⟩)
    (hΦ : ∀ M w, Φ M w → Pin g1 o1 cs1 a M w) (hΨ : ∀ M w, Φ M w → Pin g2 o2 cs2 b M w) (hlen : a.length ≤ 9223372036854775807) :
    GivesIn Φ Tryz.prog F.errataref28_Equal #[.slice p a.length cap, .slice q b.length cap2] (.bool (decide (a = b))) := by
  refine in_cells hΦ fun hc1 => in_cells hΨ fun hc2 => ?_
  refine gives_in (Berrataref28_Equal_run p a.length cap q b.length cap2) fun W R => ?_
  refine Br.intro (fun h => fun w G cx => ⟨?_, cx.left⟩) (fun h => ?_)
  · rw [decide_eq_false]
    intro e
    have := of_decide_eq_true h
    rw [e] at this
    exact this rfl
  have hl : a.length = b.length := by have := of_decide_eq_false h; omega
  refine exI_mk (fun iI R' Φ' k => ∃ i : Nat, iI = i ∧ i ≤ a.length ∧ R' = R ∧ Φ' = Φ ∧ k = a.length - i ∧ a.take i = b.take i) ⟨⟨R, Φ, _, inferInstance, fun w F c => c, 0, rfl, Nat.zero_le _, rfl, rfl, rfl, rfl⟩, ?_⟩
  rintro iI R1 Φ1 k _ ⟨i, rfl, hi, rfl, rfl, rfl, hs⟩
  refine Br.intro (fun hlt => ?_) (fun hge => fun w F cx => ⟨?_, cx.left⟩)
  · have hlt : i < a.length := by have := of_decide_eq_true hlt; omega
    have hltb : i < b.length := by omega
    obtain ⟨r1, rc1, he1, f1, f2, _, _⟩ := hc1 i hlt
    obtain ⟨r2, rc2, he2, f3, f4, _, _⟩ := hc2 i hltb
    have hcall := rCompareD_in (Φ := Φ1) a[i] b[i] r1 r2 rc1 rc2 (fun M w h => pin_row (hΦ M w h) hlt he1) (fun M w h => pin_row (hΨ M w h) hltb he2) (len_max f1 f2)
    have hn1 : ∀ {w : World} {G : List Own}, Ctx W w (R1 ++ G) Φ1 → w.cell? ⟨g1, o1 + (i : Int).toNat * 3 + 2, none⟩ = some (.int .i64 a[i].n) := fun cx => by
      have := pin_rowAt (hΦ _ _ cx.phi) hlt he1 2 (by simp)
      rw [Int.toNat_natCast]; simpa using this
    have hn2 : ∀ {w : World} {G : List Own}, Ctx W w (R1 ++ G) Φ1 → w.cell? ⟨g2, o2 + (i : Int).toNat * 3 + 2, none⟩ = some (.int .i64 b[i].n) := fun cx => by
      have := pin_rowAt (hΨ _ _ cx.phi) hltb he2 2 (by simp)
      rw [Int.toNat_natCast]; simpa using this
    refine ⟨R1, Φ1, inferInstance, fun _ _ c => c, by omega, ptrK_intro g1 o1 (hp (by omega)) ⟨by omega, ptrK_intro g2 o2 (hq (by omega)) ⟨a[i].time, r1, a[i].row.length, rc1, a[i].n, fun w G cx => ⟨_, _, _, _, _, by rw [Int.toNat_natCast]; exact pin_rowAt (hΦ _ _ cx.phi) hlt he1, rfl⟩, b[i].time, r2, b[i].row.length, rc2, b[i].n, fun w G cx => ⟨_, _, _, _, _, by rw [Int.toNat_natCast]; exact pin_rowAt (hΨ _ _ cx.phi) hltb he2, rfl⟩,
      fun w G cx => hcall.use cx fun w cx => ⟨_, rfl, R1, Φ1, inferInstance, cx, Br.intro (fun hn => fun w F cx => ⟨?_, cx.left⟩) (fun hn => ⟨by omega, ptrK_intro g1 o1 (hp (by omega)) ⟨by omega, ptrK_intro g2 o2 (hq (by omega)) fun w G cx => ⟨_, hn1 cx, fun w G cx => ⟨_, hn2 cx, Br.intro (fun h3 => fun w G cx => ⟨?_, cx.left⟩) (fun h3 => ⟨by unfold I64; omega, R1, Φ1, a.length - (i + 1), inferInstance, fun w F c => c, ⟨i + 1, rfl, hlt, rfl, rfl, rfl, ?_⟩, by omega⟩)⟩⟩⟩⟩)⟩⟩⟩⟩
    · rw [decide_eq_false]
      intro e
      subst e
      have := of_decide_eq_true hn
      rw [cmpD_key] at this
      exact this (cmpK_cmp.refl _)
    · rw [decide_eq_false]
      intro e
      subst e
      have := of_decide_eq_true h3
      exact this rfl
    · have h1 := of_decide_eq_false hn
      have h2 := of_decide_eq_false h3
      have h1 : cmpD a[i] b[i] = 0 := Decidable.not_not.1 h1
      have h2 : a[i].n = b[i].n := Decidable.not_not.1 h2
      rw [cmpD_key] at h1
      have he : a[i] = b[i] := delta_ext ((cmpK_cmp.eq _ _).1 h1) h2
      rw [List.take_succ_eq_append_getElem hlt, List.take_succ_eq_append_getElem hltb, hs, he]
  · have hge : i = a.length := by have := of_decide_eq_false hge; omega
    rw [decide_eq_true]
    rw [hge, List.take_length, hl, List.take_length] at hs
    exact hs

theorem Equal_in {Φ : PW} [Stable Φ] (p : Option Addr) (cap : Nat) (a : List DeltaD) (q : Option Addr) (cap2 : Nat) (b : List DeltaD) (hΦ : ∀ M w, Φ M w → Sl M w p a) (hΨ : ∀ M w, Φ M w → Sl M w q b) (hlen : a.length ≤ 9223372036854775807) :
    GivesIn Φ Tryz.prog F.errataref28_Equal #[.slice p a.length cap, .slice q b.length cap2] (.bool (decide (a = b))) :=
  .pinned hΦ fun g1 o1 cs1 hp => .pinned (fun M w h => hΨ M w h.1) fun g2 o2 cs2 hq => Equal_pin (Φ := fun M w => (Φ M w ∧ Pin g1 o1 cs1 a M w) ∧ Pin g2 o2 cs2 b M w) p cap a q cap2 b g1 o1 cs1 g2 o2 cs2 hp hq (fun M w h => h.1.2) (fun M w h => h.2) hlen

end Go.Proofs.YtbkpfhhhbhaecaaGreatDoor
end

/-
  Concat, Add, Consolidated, walked.
-/
section
set_option linter.unusedVariables false
set_option linter.unusedSimpArgs false
namespace Go.Vc
section
variable {W w : World} {S : List Own} {Φ : PW}

/-- append a slice of plain data, perhaps empty -/
theorem Ctx.appAny [Stable Φ] {P : Program} {α : Type} [Gv α] {q : Option Addr} {l : List α} {c2 : Nat} {p : Option Addr} {n cap : Nat} {cs : List Value} {t : TypeId} {bytes : Nat} (c : Ctx W w (.buf p n cap cs t (Gv.ty α).size :: S) Φ)
    {ts ty : TypeId} {kb : Array Bool} (hb : appB P ts t (Gv.ty α).size bytes = true) (h1 : ∀ M w cs (x : α), Gv.rep M w cs x → (cs.all fun u => oneC u) = true) (hsl : ∀ M w, Φ M w → Sl M w q l) (hlen : n + l.length < 100000000) (hbytes : bytes ≤ 1000) :
    ∃ p' cap' w' news, Sem.run P (builtin Builtin.append #[ts, ts] ty kb #[.slice p n cap, .slice q l.length c2]) w = .ok (.value (.slice p' (n + l.length) cap')) w' ∧
      Ctx W w' (.buf p' (n + l.length) cap' (cs ++ news) t (Gv.ty α).size :: S) (fun M w => Φ M w ∧ Elems M w news l) := by
  rcases Nat.eq_zero_or_pos l.length with h0 | h0
  · obtain ⟨i, z, e1, e2, e3, e4, e5, e6⟩ := appB_out hb
    have hl : l = [] := List.eq_nil_of_length_eq_zero h0
    subst hl
    refine ⟨p, cap, w, [], run_app (c.append0 0 rfl e1 e2 q c2), ?_⟩
    rw [List.append_nil]
    exact c.add Elems.nil
  · obtain ⟨p', cap', w', news, h2, _, c3⟩ := c.appSl (ty := ty) (kb := kb) (c2 := c2) hb h1 hsl h0 hlen hbytes
    exact ⟨p', cap', w', news, h2, c3⟩

end
end Go.Vc

namespace Go.Proofs.YtbkpfhhhbhaecaaGreatDoor
open Go.Vc


def addP (a b : List DeltaD) : List DeltaD := consP (a ++ b)

end Go.Proofs.YtbkpfhhhbhaecaaGreatDoor
end

/-
  Find, IndexFunc, walked.
-/
section
set_option linter.unusedVariables false
set_option linter.unusedSimpArgs false
namespace Go.Proofs.YtbkpfhhhbhaecaaGreatDoor
open Go.Vc


/-! ### Find, Count -/
def findI {α : Type} (p : α → Bool) : Nat → List α → Int
  | _, [] => -1
  | i, x :: r => if p x = true then (i : Int) else findI p (i + 1) r

theorem findI_drop {α : Type} (p : α → Bool) (l : List α) (i : Nat) (hi : i < l.length) : findI p i (l.drop i) = if p l[i] = true then (i : Int) else findI p (i + 1) (l.drop (i + 1)) := by
  rw [List.drop_eq_getElem_cons hi]; rfl
theorem findI_any {α : Type} (p : α → Bool) : ∀ (l : List α) (i : Nat), decide (0 ≤ findI p i l) = l.any p
  | [], _ => rfl
  | x :: r, i => by
    unfold findI
    rw [List.any_cons]
    cases h : p x with
    | true => simp
    | false => simp only [Bool.false_or]; rw [if_neg (by simp)]; exact findI_any p r (i + 1)

end Go.Proofs.YtbkpfhhhbhaecaaGreatDoor
end

/-
  DeleteFunc, Upto, After, walked.
-/
section
set_option linter.unusedVariables false
set_option linter.unusedSimpArgs false
namespace Go.Vc
section
variable {P : Program} {W w w' : World} {S F : List Own} {Φ Ψ : PW}

end
end Go.Vc

namespace Go.Proofs.YtbkpfhhhbhaecaaGreatDoor
open Go.Vc


/-! ### Upto, After -/
abbrev lowP (l : List DeltaD) (t : Int) : List DeltaD := l.filter fun x : DeltaD => decide (x.time ≤ t)
abbrev highP (l : List DeltaD) (t : Int) : List DeltaD := l.filter fun x : DeltaD => decide (t < x.time)
def uptoP (l : List DeltaD) (t : Int) : List DeltaD := consP (lowP l t)
def afterP (l : List DeltaD) (t : Int) : List DeltaD := consP (highP l t)

end Go.Proofs.YtbkpfhhhbhaecaaGreatDoor
end

/-
  Consolidated, walked; DifferenceLeast in plain Lean, and walked.
-/
section
set_option linter.unusedVariables false
set_option linter.unusedSimpArgs false
namespace Go.Proofs.YtbkpfhhhbhaecaaGreatDoor
open Go.Vc


def consAt (l : List DeltaD) (j : Nat) : Bool := match l[j]? with
  | none => false
  | some y => decide (y.n ≠ 0) && match j with
    | 0 => true
    | i + 1 => match l[i]? with
      | none => false
      | some x => decide (cmpD x y < 0)
def consolidated (l : List DeltaD) : Bool := (List.range l.length).all fun j => consAt l j

theorem sumK_neg (k : Key) : ∀ a : List DeltaD, (sumK (a.map negD) k + sumK a k) % 18446744073709551616 = 0
  | [] => rfl
  | x :: a => by
    have ih := sumK_neg k a
    have h := w64_mod (0 - x.n)
    show ((if (negD x).key = k then (negD x).n else 0) + sumK (a.map negD) k + ((if x.key = k then x.n else 0) + sumK a k)) % 18446744073709551616 = 0
    have e1 : (negD x).key = x.key := rfl
    have e2 : (negD x).n = w64 (0 - x.n) := rfl
    rw [e1, e2]
    by_cases hk : x.key = k
    · rw [if_pos hk, if_pos hk]; omega
    · rw [if_neg hk, if_neg hk]; omega

theorem find_neg (a : List DeltaD) (k : Key) : findP (a.map negD) k = w64 (-(findP a k)) := by
  unfold findP
  apply w64_cong
  have := sumK_neg k a
  have := w64_mod (sumK a k)
  omega

theorem find_cons (l : List DeltaD) (k : Key) : findP (consP l) k = findP l k := (consP_norm l).2 k
theorem find_sub (a b : List DeltaD) (k : Key) : findP (subP a b) k = w64 (findP a k - findP b k) := by
  unfold subP
  rw [find_cons, findP_app, find_neg, w64_r, ← Int.sub_eq_add_neg]
theorem sub_self (a : List DeltaD) : subP a a = [] := by
  have h : ∀ k, findP [] k = findP (subP a a) k := fun k => by
    rw [find_sub, Int.sub_self]; rfl
  have := consP_is (l := subP a a) Norm.nil h
  rwa [show consP (subP a a) = subP a a from consP_cons _] at this
abbrev Rows1 (l : List DeltaD) : Prop := ∀ x ∈ l, x.row.length ≤ 1000000
end Go.Proofs.YtbkpfhhhbhaecaaGreatDoor
end

/-
  The reference's sorting: in plain Lean, and walked.
-/
section
set_option linter.unusedVariables false
set_option linter.unusedSimpArgs false
namespace Go.Proofs.YtbkpfhhhbhaecaaGreatDoor
open Go.Vc


/-! ### in plain Lean -/
def leD (x y : DeltaD) : Bool := decide (cmpD x y ≤ 0)
def srt : Nat → List DeltaD → List DeltaD
  | 0, l => l
  | f + 1, l => if l.length < 2 then l else List.merge (srt f (l.take (l.length / 2))) (srt f (l.drop (l.length / 2))) leD

/-! ### walked -/
/-- the cells of a pinned list -/
theorem Ctx.cells {W w : World} {S : List Own} {Φ : PW} {g o : Nat} {cs : List (List Value)} {l : List DeltaD} (c : Ctx W w S Φ) (h : ∀ M w, Φ M w → Pin g o cs l M w) :
    ∀ j, (hj : j < l.length) → ∃ p c, cs.getD j [] = l[j].cells p c ∧ l[j].row.length ≤ c ∧ c ≤ maxLen ∧ I64 l[j].time ∧ I64 l[j].n := fun j hj => by
  obtain ⟨p, q, h1, h2, h3, h4, h5, _⟩ := pin_delta (h _ _ c.phi) hj
  exact ⟨p, q, h1, h2, h3, h4, h5⟩

/-- append one delta that was read -/
theorem push1 {W w : World} {R G : List Own} {PS : PW} [Stable PS] {op : Option Addr} {oc : Nat} {ds : List Value} {o : List DeltaD} {x : DeltaD} {q : Option Addr} {qc kb : Nat} (hx : ∀ M w, PS M w → Gv.rep M w (x.cells q qc) x) (ho : o.length < 10000000)
    (cx : Ctx W w (.blk kb (x.cells q qc) 73 :: .buf op o.length oc ds 73 3 :: R ++ G) (fun M w => PS M w ∧ Elems M w ds o)) :
    ∃ p c w', Sem.run Tryz.prog (builtin Builtin.append #[44, 44] 44 #[false, false] #[.slice op o.length oc, .slice (some ⟨kb, 0, none⟩) 1 1]) w = .ok (.value (.slice p (o ++ [x]).length c)) w' ∧ Ctx W w' (.buf p (o ++ [x]).length c (ds ++ x.cells q qc) 73 3 :: R ++ G) (fun M w => PS M w ∧ Elems M w (ds ++ x.cells q qc) (o ++ [x])) := by
  obtain ⟨p', cap', w', hrun, _, cx'⟩ := Ctx.app1 (P := Tryz.prog) (ts := 44) (ty := 44) (kb := #[false, false]) (size := 3) (bytes := 40) cx (by kernel_rfl) (by omega) rfl rfl (by omega) (by omega)
  have e : o.length + 1 = (o ++ [x]).length := by simp
  rw [e] at hrun cx'
  exact ⟨p', cap', w', hrun, cx'.weak fun M w h => ⟨h.1, h.2.snoc (hx M w h.1)⟩⟩

end Go.Proofs.YtbkpfhhhbhaecaaGreatDoor
end

/-
  The reference's consolidation, and what is built upon it, walked.
-/
section
set_option linter.unusedVariables false
set_option linter.unusedSimpArgs false
namespace Go.Proofs.YtbkpfhhhbhaecaaGreatDoor
open Go.Vc


/-! ### in plain Lean -/
def dz (x : DeltaD) : DE := ⟨x, none, 0⟩
theorem dz_d (s : List DeltaD) : (s.map dz).map DE.d = s := by
  rw [List.map_map]
  exact List.map_id s
abbrev CO (l s outs : List DeltaD) (i : Nat) : Prop := COuter l (s.map dz) (outs.map dz) i
theorem CO.start {l s : List DeltaD} (h : s.Perm l) : CO l s [] 0 :=
  ⟨Nat.zero_le _, Norm.nil, by simp, fun k => by rw [List.drop_zero, dz_d, dz_d]; exact findP_perm h k, Nat.le_refl _⟩
theorem CO.step {l s outs : List DeltaD} {i : Nat} (h : CO l s outs i) {X : DeltaD} (hX : X ∈ s.drop i) {j : Nat} (hij : i + j ≤ s.length) (hj : 1 ≤ j) (hk : ∀ y ∈ (s.drop i).take j, y.key = X.key) {N : Int} (hN : N = findP ((s.drop i).take j) X.key)
    (hgt : ∀ y ∈ s.drop (i + j), cmpK X.key y.key < 0) : (N = 0 → CO l s outs (i + j)) ∧ (N ≠ 0 → CO l s (outs ++ [⟨X.time, X.row, N⟩]) (i + j)) := by
  have h1 := COuter.step h (X := dz X) (by rw [← List.map_drop]; exact List.mem_map_of_mem hX) (j := j) (by rw [List.length_map]; exact hij) hj
    (fun y hy => by rw [← List.map_drop, ← List.map_take] at hy; obtain ⟨z, hz, rfl⟩ := List.mem_map.1 hy; exact hk z hz) (N := N) (by rw [← List.map_drop, ← List.map_take, dz_d]; exact hN)
    (fun y hy => by rw [← List.map_drop] at hy; obtain ⟨z, hz, rfl⟩ := List.mem_map.1 hy; exact hgt z hz)
  refine ⟨h1.1, fun h0 => ?_⟩
  have := h1.2 h0 none 0
  unfold CO
  rw [List.map_append]
  exact this
theorem CO.end {l s outs : List DeltaD} (h : CO l s outs s.length) : consP l = outs := by
  have h1 := h.norm
  have h2 := h.find
  rw [dz_d] at h1 h2
  refine consP_is h1 fun k => ?_
  have := h2 k
  rwa [← List.map_drop, List.drop_length, List.map_nil, List.map_nil, List.append_nil] at this
theorem CO.few {l s outs : List DeltaD} {i : Nat} (h : CO l s outs i) : outs.length ≤ i := by
  have := COuter.few h
  rwa [List.length_map] at this

end Go.Proofs.YtbkpfhhhbhaecaaGreatDoor
end

/-
  Nets of lines, out of a slice that is told or owned; Net, Upto, At; Lines; the reference's net.
-/
section
set_option linter.unusedVariables false
set_option linter.unusedSimpArgs false
namespace Go.Proofs.YtbkpfhhhbhaecaaGreatDoor
open Go.Vc


theorem subPtr_zero (p : Option Addr) (s m : Nat) : subPtr p s 0 m = p := by
  unfold subPtr
  split
  · rfl
  · cases p with
    | none => rfl
    | some a => simp [Addr.add]

section
variable {Φ : PW} {q : LP} {st : LedD} {W w : World} {R S G : List Own} {p : Option Addr} {cap : Nat} {l : List LineD} {cs : List Value}

theorem src_all (hq : LedQ q st) (hF : ∀ M w, Φ M w → Elems M w q.cs st.lines) : Src (LedO q st) Φ q.lp st.lines q.cs := by
  have h := src_led (Φ := Φ) hq hF 0 st.lines.length (by omega)
  rw [subPtr_zero, Nat.zero_mul, List.drop_zero, List.drop_zero, List.take_length, ← hq.len, List.take_length] at h
  exact h
theorem src_pre (hq : LedQ q st) (hF : ∀ M w, Φ M w → Elems M w q.cs st.lines) (n : Nat) (hn : n ≤ st.lines.length) : Src (LedO q st) Φ (subPtr q.lp 7 0 q.lc) (st.lines.take n) (q.cs.take (n * 7)) := by
  have h := src_led (Φ := Φ) hq hF 0 n (by omega)
  rw [Nat.zero_mul, List.drop_zero, List.drop_zero] at h
  exact h

theorem src_row (src : Src S Φ p l cs) {b o i : Nat} (hp : p = some ⟨b, o, none⟩) (c : Ctx W w (S ++ G) Φ) (hi : i < l.length) : ∃ r rc, RowAt w b (o + i * 7) (l[i].cells r rc) ∧ (cs.drop (i * 7)).take 7 = l[i].cells r rc ∧ l[i].row.length ≤ rc ∧ rc ≤ maxLen ∧ l[i].In := by
  obtain ⟨r, rc, he, h1, h2, h3, _⟩ := lrow (src.el _ _ c.phi) hi
  refine ⟨r, rc, fun j hj => ?_, he, h1, h2, h3⟩
  have := src.rd hp c (i * 7 + j) _ (rows_of (vs := l[i].cells r rc) he j hj)
  rw [← Nat.add_assoc] at this
  exact this
theorem src_sl (src : Src S Φ p l cs) {i : Nat} (hi : i < l.length) {r : Option Addr} {rc : Nat} (he : (cs.drop (i * 7)).take 7 = l[i].cells r rc) {M : List Nat} (h : Φ M w) : Sl M w r l[i].row := by
  have := (src.el M w h).2 i hi
  rw [show (Gv.ty LineD).size = 7 from rfl, he] at this
  exact line_row this

/-- append one delta that was made of a line -/
theorem pushLD {PS : PW} [Stable PS] {op : Option Addr} {oc : Nat} {ds : List Value} {o : List DeltaD} {x : LineD} {r : Option Addr} {rc kb : Nat} (hx : ∀ M w, PS M w → Sl M w r x.row) (h1 : x.row.length ≤ rc) (h2 : rc ≤ maxLen) (h3 : x.In) (ho : o.length < 10000000)
    (cx : Ctx W w (.blk kb (x.d.cells r rc) 73 :: .buf op o.length oc ds 73 3 :: R ++ G) (fun M w => PS M w ∧ Elems M w ds o)) :
    ∃ p c w', Sem.run Tryz.prog (builtin Builtin.append #[44, 44] 44 #[false, false] #[.slice op o.length oc, .slice (some ⟨kb, 0, none⟩) 1 1]) w = .ok (.value (.slice p (o ++ [x.d]).length c)) w' ∧ Ctx W w' (.buf p (o ++ [x.d]).length c (ds ++ x.d.cells r rc) 73 3 :: R ++ G) (fun M w => PS M w ∧ Elems M w (ds ++ x.d.cells r rc) (o ++ [x.d])) :=
  push1 (x := x.d) (fun M w h => rep_delta (x := x.d) h1 h2 h3.time h3.n (hx M w h)) ho cx

set_option maxHeartbeats 1000000 in
theorem net_src [Stable Φ] (src : Src S Φ p l cs) (hlen : l.length ≤ 400000) (hrow : ∀ x ∈ l, x.row.length ≤ 1000000) (c : Ctx W w S Φ) :
    Calls Tryz.prog F.ledger_net #[.slice p l.length cap] w fun e w' => ∃ p' c', e = .returned (.slice p' (netP l).length c') ∧ (netP l).length ≤ c' ∧ c' ≤ maxLen ∧ Ctx W w' S (fun M w => Φ M w ∧ Sl M w p' (netP l)) := by
  refine (Bledger_net_run p l.length cap (J := fun v w' => ∃ p' c', v = .slice p' (netP l).length c' ∧ (netP l).length ≤ c' ∧ c' ≤ maxLen ∧ Ctx W w' S (fun M w => Φ M w ∧ Sl M w p' (netP l))) c ?_).mono fun e w' ⟨v, he, p', c', hv, rest⟩ => ⟨p', c', by rw [he, hv], rest⟩
  clear c
  refine exI_mk (fun sp sn sc iI R' Φ' k => ∃ (i : Nat) (ds : List Value), iI = i ∧ i ≤ l.length ∧ sn = ((l.take i).map LineD.d).length ∧ R' = .buf sp sn sc ds 73 3 :: S ∧ Φ' = (fun M w => Φ M w ∧ Elems M w ds ((l.take i).map LineD.d)) ∧ k = l.length - i)
    ⟨⟨.buf none 0 0 [] 73 3 :: S, fun M w => Φ M w ∧ Elems M w [] ((l.take 0).map LineD.d), _, inferInstance, fun w G cx => (cx.weak fun M w h => ⟨h, Elems.nil⟩).nobuf 73 3, 0, [], rfl, Nat.zero_le _, rfl, rfl, rfl, rfl⟩, ?_⟩
  rintro sp _ sc iI R1 Φ1 k _ ⟨i, ds, rfl, hi, rfl, rfl, rfl, rfl⟩
  have hln : ((l.take i).map LineD.d).length = i := by simp; omega
  refine Br.intro (fun hlt => ?_) (fun hge => fun w G cx => ?_)
  · have hlt : i < l.length := by have := of_decide_eq_true hlt; omega
    obtain ⟨b, o, hp⟩ := src.ptr (by omega)
    refine ⟨by omega, ptrK_intro b o hp fun w G cx => ?_⟩
    obtain ⟨r, rc, hr, he, h1, h2, h3⟩ := src_row src hp (Ctx.drop1 cx).fst hlt
    refine ⟨l[i].no, l[i].batch, l[i].time, r, l[i].row.length, rc, l[i].n, l[i].cause, l[i].why, by rw [Int.toNat_natCast]; exact hr, fun _ kb w G cx => ?_⟩
    obtain ⟨p', c', w', hrun, cx'⟩ := pushLD (x := l[i]) (PS := Φ) (fun M w h => src_sl src hlt he h) h1 h2 h3 (by omega) cx
    have htk : (l.take (i + 1)).map LineD.d = (l.take i).map LineD.d ++ [l[i].d] := by rw [List.take_succ_eq_append_getElem hlt, List.map_append]; rfl
    rw [← htk] at hrun cx'
    have hst3 : Stable (fun M w => Φ M w ∧ Elems M w (ds ++ l[i].d.cells r rc) ((l.take (i + 1)).map LineD.d)) := inferInstance
    exact ⟨p', _, c', w', hrun, _, _, hst3, cx', by unfold I64; omega, _, _, l.length - (i + 1), hst3, fun w G cx => cx, ⟨i + 1, _, by omega, hlt, rfl, rfl, rfl, rfl⟩, by omega⟩
  · have hi : i = l.length := by have := of_decide_eq_false hge; omega
    subst hi
    rw [List.take_length] at cx ⊢
    obtain ⟨cx3, hs, _⟩ := Ctx.freeze (α := DeltaD) cx.fst cx.phi.2
    have hst4 : Stable (fun M w => Φ M w ∧ Sl M w sp (l.map LineD.d)) := inferInstance
    refine (Consolidate_sl (Φ := fun M w => Φ M w ∧ Sl M w sp (l.map LineD.d)) sp sc (l.map LineD.d) (fun M w h => h.2) (by simp; omega) (fun x hx => ?_)).use (cx3.add hs) fun p3 c3 w h1 h2 cx => ⟨p3, _, c3, rfl, S, fun M w => Φ M w ∧ Sl M w p3 (netP l), inferInstance, cx.weak fun M w h => ⟨h.1.1, h.2⟩, fun w G cx => ⟨p3, c3, rfl, h1, h2, cx.left⟩⟩
    obtain ⟨y, hy, rfl⟩ := List.mem_map.1 hx
    exact hrow y hy

theorem Net_q [Stable Φ] (hq : LedQ q st) (hs : LedS st) [hF : Has Φ (LF q st)] : GivesQSl (LedO q st) Φ Tryz.prog F.ledger_Ledger_Net #[led q] (netP st.lines) := by
  have := hs.lines
  exact gives_qsl (Bledger_Ledger_Net_run q.lb 0) fun W R => fun w G cx => ⟨_, _, _, led_cell (i := 0) cx rfl, fun w G cx =>
    (net_src (S := (LedO q st ++ R) ++ G) (src_all (Φ := Φ) hq hF.go).app.app (by omega) hs.rows cx).mono fun e w' ⟨p', c', he, h1, h2, cx⟩ => ⟨p', _, c', he, _, _, inferInstance, cx, fun w G cx => ⟨p', c', rfl, h1, h2, cx.left⟩⟩⟩

theorem Lines_q [Stable Φ] (hq : LedQ q st) (hs : LedS st) [hF : Has Φ (LF q st)] : GivesQSl (LedO q st) Φ Tryz.prog F.ledger_Ledger_Lines #[led q] st.lines := by
  have := hs.lines
  exact gives_qsl (Bledger_Ledger_Lines_run q.lb 0) fun W R => fun w G cx => ⟨_, _, _, led_cell (i := 0) cx rfl, fun w G cx =>
    (Cloned_new (S := (LedO q st ++ R) ++ G) (src_all (Φ := Φ) hq hF.go).app.app (by omega) hs.rows cx).mono fun e w' ⟨p', c', cs', he, cx⟩ => by
      obtain ⟨c2, hs, _, h2, h3⟩ := Ctx.freeze (α := LineD) cx cx.phi.2
      exact ⟨p', _, c', he, (LedO q st ++ R), _, inferInstance, (c2.add hs).weak fun M w h => ⟨h.1.1, h.2⟩, fun w G cx => ⟨p', c', rfl, h2, h3, cx.left⟩⟩⟩

/-- the lines up to a batch -/
def endP : List BatD → Int → Nat → Nat
  | [], _, e => e
  | b :: l, no, e => endP l no (if b.no ≤ no then b.stop else e)
theorem endP_take {l : List BatD} {no : Int} {i : Nat} (h : i < l.length) (e : Nat) : endP (l.take (i + 1)) no e = if l[i].no ≤ no then l[i].stop else endP (l.take i) no e := by
  induction l generalizing i e with
  | nil => simp at h
  | cons b l ih =>
    cases i with
    | zero => rfl
    | succ i => exact ih (i := i) (by simpa using h) _
theorem endP_le {m : Nat} {no : Int} : ∀ {l : List BatD} {e : Nat}, (∀ b ∈ l, b.stop ≤ m) → e ≤ m → endP l no e ≤ m
  | [], e, _, h => h
  | b :: l, e, hl, h => by
    unfold endP
    refine endP_le (fun c hc => hl c (by simp [hc])) ?_
    split
    · exact hl b (by simp)
    · exact h

set_option maxHeartbeats 1000000 in
theorem At_q [Stable Φ] {no : Int} (hq : LedQ q st) (hs : LedS st) [hF : Has Φ (LF q st)] : GivesQSl (LedO q st) Φ Tryz.prog F.ledger_Ledger_At #[led q, .int .i64 no] (netP (st.lines.take (endP st.bats no 0))) := by
  have h1 := hs.lines
  have h3 := hs.bats
  refine gives_qsl (Bledger_Ledger_At_run q.lb 0 no) fun W R => fun w G cx => ⟨_, _, _, led_cell (i := 1) cx rfl, ?_⟩
  clear cx
  refine exI_mk (fun eI iI R' Φ' k => ∃ i : Nat, iI = i ∧ i ≤ st.bats.length ∧ eI = (endP (st.bats.take i) no 0 : Nat) ∧ R' = LedO q st ++ R ∧ Φ' = Φ ∧ k = st.bats.length - i) ⟨⟨_, _, _, inferInstance, fun w G cx => cx, 0, rfl, Nat.zero_le _, rfl, rfl, rfl, rfl⟩, ?_⟩
  rintro eI iI R1 Φ1 k _ ⟨i, rfl, hi, rfl, rfl, rfl, rfl⟩
  refine Br.intro (fun hlt => ?_) (fun hge => fun w G cx => ⟨_, _, _, led_cell (i := 0) cx rfl, ?_⟩)
  · have hlt : i < st.bats.length := by have := of_decide_eq_true hlt; omega
    obtain ⟨g, hg⟩ := hq.bpt (by omega)
    have he := endP_take (no := no) hlt 0
    refine ⟨by omega, ptrK_intro g 0 hg fun w G cx => ⟨st.bats[i].no, st.bats[i].mark, (st.bats[i].stop : Int), by rw [Int.toNat_natCast]; exact led_bat cx hg hlt, fun _ => Br.intro (fun h => ?_) (fun h => ?_)⟩⟩
    · exact ⟨by unfold I64; omega, _, _, st.bats.length - (i + 1), inferInstance, fun w G cx => cx, ⟨i + 1, rfl, hlt, by rw [he, if_pos (of_decide_eq_true h)], rfl, rfl, rfl⟩, by omega⟩
    · exact ⟨by unfold I64; omega, _, _, st.bats.length - (i + 1), inferInstance, fun w G cx => cx, ⟨i + 1, rfl, hlt, by rw [he, if_neg (of_decide_eq_false h)], rfl, rfl, rfl⟩, by omega⟩
  · have hge : i = st.bats.length := by have := of_decide_eq_false hge; omega
    subst hge
    clear cx
    rw [List.take_length]
    have hle := endP_le (no := no) (e := 0) hs.stop (Nat.zero_le _)
    obtain ⟨n, hn⟩ : ∃ n, endP st.bats no 0 = n := ⟨_, rfl⟩
    rw [hn] at hle ⊢
    have hln : (st.lines.take n).length = n := by rw [List.length_take]; omega
    have hrow : ∀ x ∈ st.lines.take n, x.row.length ≤ 1000000 := fun x hx => hs.rows x (List.mem_of_mem_take hx)
    have hlc := hq.lcap.1
    refine ⟨by omega, fun w G cx => ?_⟩
    rw [Int.toNat_natCast]
    have := net_src (cap := q.lc) (S := (LedO q st ++ R) ++ G) (src_pre hq hF.go n hle).app.app (by omega) hrow cx
    rw [hln] at this
    exact this.mono fun e w' ⟨p', c', he, h1, h2, cx⟩ => ⟨p', _, c', he, _, _, inferInstance, cx, fun w G cx => ⟨p', c', rfl, h1, h2, cx.left⟩⟩
end
end Go.Proofs.YtbkpfhhhbhaecaaGreatDoor
end

/-
  Right rows; what a ledger checks: walked.
-/
section
set_option linter.unusedVariables false
set_option linter.unusedSimpArgs false
namespace Go.Proofs.YtbkpfhhhbhaecaaGreatDoor
open Go.Vc


/-! ### right rows -/
theorem vInt_g (n : Int) : Gives Tryz.prog F.value_Int #[.int .i64 n] (.agg #[.int .i64 0, .int .i64 n, .string (ByteArray.mk #[])]) :=
  gives_of (Bvalue_Int_run n) fun W R Φ _ => fun _ w G c => ⟨rfl, c.left⟩
theorem vText_g (s : ByteArray) : Gives Tryz.prog F.value_Text #[.string s] (.agg #[.int .i64 1, .int .i64 0, .string s]) :=
  gives_of (Bvalue_Text_run s) fun W R Φ _ => fun _ w G c => ⟨rfl, c.left⟩
theorem vBool_g (b : Bool) : Gives Tryz.prog F.value_Bool #[.bool b] (.agg #[.int .i64 2, .int .i64 (if b = true then 1 else 0), .string (ByteArray.mk #[])]) :=
  gives_of (Bvalue_Bool_run b) fun W R Φ _ => fun _ => Br.intro (fun h => fun w G c => ⟨by rw [if_pos h], c.left⟩) (fun h => fun w G c => ⟨by rw [if_neg (by rw [h]; simp)], c.left⟩)

theorem vRight_g (x : ValD) : Gives Tryz.prog F.value_Right #[x.v] (.bool (rightV3 x)) := by
  refine gives_of (Bvalue_Right_run x.kind x.num x.text) fun W R Φ _ => fun _ => Br.intro (fun h => ?_) (fun h => Br.intro (fun h2 => ?_) (fun h2 => ?_))
  · refine ⟨R, Φ, inferInstance, fun w G c => c, fun w G cx => (vInt_g x.num).use cx fun w c => ⟨0, x.num, ByteArray.mk #[], rfl, R, Φ, inferInstance, c, fun w G c => c, by kernel_rfl, fun w G c => ⟨?_, c.left⟩⟩⟩
    have h := of_decide_eq_true h
    unfold rightV3
    rw [if_pos h, decide_eq_true h, decide_eq_true rfl, Bool.true_and, Bool.true_and, Bool.and_true]
  · refine ⟨R, Φ, inferInstance, fun w G c => c, fun w G cx => (vText_g x.text).use cx fun w c => ⟨1, 0, x.text, rfl, R, Φ, inferInstance, c, fun w G c => c, by kernel_rfl, ?_⟩⟩
    have h := of_decide_eq_false h
    have h2 := of_decide_eq_true h2
    refine Br.intro (fun h3 => fun w G c => ⟨?_, c.left⟩) (fun h3 => fun w G c => ⟨?_, c.left⟩)
    · unfold rightV3
      rw [if_neg h, if_pos h2]
      have : x.num = 0 := by simp at h3; exact h3.2
      rw [decide_eq_true this, Bool.true_and]
    · unfold rightV3
      rw [if_neg h, if_pos h2]
      have : x.num ≠ 0 := by
        intro e
        rw [decide_eq_true h2, decide_eq_true e, decide_eq_true rfl] at h3
        cases h3
      rw [decide_eq_false this, Bool.false_and]
  · have h := of_decide_eq_false h
    have h2 := of_decide_eq_false h2
    have hr : rightV3 x = (decide (x.kind = 2) && (decide (x.num = 0) || decide (x.num = 1)) && decide (x.text = ByteArray.mk #[])) := by unfold rightV3; rw [if_neg h, if_neg h2]
    refine ⟨R, Φ, inferInstance, fun w G c => c, fun w G cx => (vBool_g false).use cx fun w c => ⟨2, 0, ByteArray.mk #[], rfl, R, Φ, inferInstance, c, fun w G c => c, R, Φ, inferInstance, fun w G c => c, by kernel_rfl, ?_⟩⟩
    refine Br.intro (fun h3 => fun w G c => ⟨?_, c.left⟩) (fun h3 => fun w G cx => (vBool_g true).use cx fun w c => ⟨2, 1, ByteArray.mk #[], rfl, R, Φ, inferInstance, c, fun w G c => c, by kernel_rfl, fun w G c => ⟨?_, c.left⟩⟩)
    · rw [hr]
      simp at h3
      simp [h3]
    · rw [hr]
      congr 1
      by_cases k1 : x.kind = 2
      · by_cases k2 : x.text = ByteArray.mk #[]
        · by_cases k3 : x.num = 0
          · rw [k1, k2, k3] at h3
            simp at h3
          · simp [k1, k2, k3]
        · simp [k2]
      · simp [k1]

section
variable {Φ : PW} {q : LP} {st : LedD} {W w : World} {R S G : List Own} {p : Option Addr} {cap : Nat} {r : List ValD}

theorem all1_g (x : ValD) : Gives Tryz.prog F.value_all_1 #[x.v] (.bool (!rightV3 x)) :=
  gives_of (Bvalue_all_1_run x.kind x.num x.text) fun W R Φ _ => fun _ w G cx => (vRight_g x).use cx fun w c => ⟨_, rfl, R, Φ, inferInstance, c, fun w G c => ⟨rfl, c.left⟩⟩

theorem IndexV_in [Stable Φ] (f : FuncId) (g : ValD → Bool) [hΦ : Has Φ (fun M w => Sl M w p r)] (hlen : r.length ≤ maxLen) (hf : okFun Tryz.prog f = true) (cp : Array Value) (hg : ∀ x : ValD, Gives Tryz.prog f (Array.mk (x.v :: cp.toList)) (.bool (g x))) :
    GivesIn Φ Tryz.prog F.slices_IndexFunc_api_Value_api_Value #[.slice p r.length cap, .func (.func f) #[] cp] (.int .i64 (findI g 0 r)) := by
  refine .there (fun M w h => (hΦ.go M w h).there) fun hth => ?_
  refine gives_in (Bslices_IndexFunc_api_Value_api_Value_run p r.length cap f cp) fun W R => ?_
  refine exI_mk (fun n R' Φ' k => ∃ i : Nat, n = i ∧ i ≤ r.length ∧ R' = R ∧ Φ' = Φ ∧ k = r.length - i ∧ findI g 0 r = findI g i (r.drop i)) ⟨⟨R, Φ, _, inferInstance, fun w F c => c, 0, rfl, Nat.zero_le _, rfl, rfl, rfl, rfl⟩, ?_⟩
  rintro n R1 Φ1 k _ ⟨i, rfl, hi, rfl, rfl, rfl, hor⟩
  refine Br.intro (fun hlt => ?_) (fun hge => fun w F cx => ⟨?_, cx.left⟩)
  · have hlt : i < r.length := by simpa using hlt
    rw [findI_drop g r i hlt] at hor
    obtain ⟨b, o, rfl⟩ := hth (by omega)
    refine ⟨by omega, ptrK_intro b o rfl fun w F cx => ⟨r[i].kind, r[i].num, r[i].text, by rw [Int.toNat_natCast]; exact sl_val (hΦ.go _ _ cx.phi) hlt, fun w F cx => ⟨hf, (hg r[i]).use cx fun w cx => ⟨g r[i], rfl, R1, Φ1, inferInstance, cx, Br.intro (fun h => fun w F cx => ⟨?_, cx.left⟩) (fun h => ⟨by unfold I64; unfold maxLen at hlen; omega, R1, Φ1, r.length - (i + 1), inferInstance, fun w F c => c, ⟨i + 1, rfl, hlt, rfl, rfl, rfl, ?_⟩, by omega⟩)⟩⟩⟩⟩
    · rw [hor, if_pos h]
    · rw [hor, if_neg (by rw [h]; simp)]
  · have hge : i = r.length := Nat.le_antisymm hi (by simpa using hge)
    rw [hor, hge, List.drop_length]
    rfl

theorem RightRow_in [Stable Φ] [hΦ : Has Φ (fun M w => Sl M w p r)] : GivesIn Φ Tryz.prog F.value_RightRow #[.slice p r.length cap] (.bool (rightR r)) := by
  refine gives_in (Bvalue_RightRow_run p r.length cap) fun W R => Br.intro (fun h => ?_) (fun h => fun w G cx => ⟨?_, cx.left⟩)
  · have h1 := of_decide_eq_true h
    have hml : r.length ≤ maxLen := by have h2 : (12 : Nat) ≤ maxLen := (by decide); omega
    have hcon : GivesIn Φ Tryz.prog F.slices_ContainsFunc_api_Value_api_Value #[.slice p r.length cap, .func (.func F.value_all_1) #[] #[]] (.bool (r.any fun x => !rightV3 x)) := by
      refine gives_in (Bslices_ContainsFunc_api_Value_api_Value_run p r.length cap F.value_all_1 #[]) fun W R => ?_
      exact fun w G cx => (IndexV_in (r := r) F.value_all_1 (fun x => !rightV3 x) hml (by kernel_rfl) #[] all1_g).toI cx fun w G cx => ⟨by rw [findI_any], cx.left⟩
    have hall : GivesIn Φ Tryz.prog F.value_all #[.slice p r.length cap] (.bool (r.all rightV3)) := by
      refine gives_in (Bvalue_all_run p r.length cap) fun W R => ?_
      refine fun w G cx => hcon.toB cx fun w G cx => ⟨?_, cx.left⟩
      rw [List.all_eq_not_any_not]
    refine fun w G cx => hall.toB cx fun w G cx => ⟨?_, cx.left⟩
    unfold rightR
    rw [decide_eq_true h1, Bool.true_and]
  · unfold rightR
    rw [decide_eq_false (of_decide_eq_false h), Bool.false_and]

/-! ### one line -/
def causedP (x : LineD) (mark : Int) : Bool :=
  if x.cause = 0 then decide (mark < x.time) && decide (x.why = 0) else if x.cause = 1 then decide (x.time ≤ mark) && decide (x.why = 0) else if x.cause = 2 then decide (0 < x.why) else false
def ascP (x y : LineD) : Bool := decide (x.time < y.time) || (decide (x.time = y.time) && decide (cmpR x.row y.row < 0))

theorem caused_in [Stable Φ] (x : LineD) (r : Option Addr) (rc : Nat) (mark : Int) : GivesIn Φ Tryz.prog F.ledger_caused #[x.v r rc, .int .i64 mark] (.bool (causedP x mark)) := by
  refine gives_in (Bledger_caused_run x.no x.batch x.time r x.row.length rc x.n x.cause x.why mark) fun W R => fun _ => ?_
  unfold causedP
  refine Br.intro (fun h => fun w G cx => fun w G cx => ⟨by rw [if_pos (of_decide_eq_true h)], cx.left⟩) (fun h => ?_)
  rw [if_neg (of_decide_eq_false h)]
  refine Br.intro (fun h => fun w G cx => fun w G cx => ⟨by rw [if_pos (of_decide_eq_true h)], cx.left⟩) (fun h => ?_)
  rw [if_neg (of_decide_eq_false h)]
  refine Br.intro (fun h => fun w G cx => ⟨by rw [if_pos (of_decide_eq_true h)], cx.left⟩) (fun h => fun w G cx => ⟨by rw [if_neg (of_decide_eq_false h)], cx.left⟩)

theorem asc_in [Stable Φ] (x y : LineD) (r : Option Addr) (rc : Nat) (s : Option Addr) (sc : Nat) [hX : Has Φ (fun M w => Sl M w r x.row)] [hY : Has Φ (fun M w => Sl M w s y.row)] (hlen : x.row.length ≤ 1000000) : GivesIn Φ Tryz.prog F.ledger_ascends #[x.v r rc, y.v s sc] (.bool (ascP x y)) := by
  refine gives_in (Bledger_ascends_run x.no x.batch x.time r x.row.length rc x.n x.cause x.why y.no y.batch y.time s y.row.length sc y.n y.cause y.why) fun W R => fun _ _ => ?_
  unfold ascP
  refine Br.intro (fun h => fun w G cx => ⟨by rw [h]; rfl, cx.left⟩) (fun h => Br.intro (fun h2 => fun w G cx => (CompareRows_in r s rc sc x.row y.row hX.go hY.go (by omega)).toI cx fun w G cx => ⟨by rw [h, h2]; rfl, cx.left⟩) (fun h2 => fun w G cx => ⟨by rw [h, h2]; rfl, cx.left⟩))

theorem at_use [Stable Φ] (x : LineD) (r : Option Addr) (rc : Nat) [hT : Has Φ TabI] [hX : Has Φ (fun M w => Sl M w r x.row)] (hlen : x.row.length ≤ 1000000) (ht : ∀ v ∈ x.row, v.text.size ≤ 10000) (c : Ctx W w (R ++ G) Φ) {K : Int → ByteArray → List Own → PW → Prop} (hk : K x.at.1 x.at.2 R Φ) :
    Calls Tryz.prog F.ledger_at #[x.v r rc] w fun e w' => ∃ n s, e = .returned (.agg #[.int .i64 n, .string s]) ∧ ∃ R' Φ', Stable Φ' ∧ Ctx W w' (R' ++ G) Φ' ∧ K n s R' Φ' := by
  refine (Bledger_at_run x.no x.batch x.time r x.row.length rc x.n x.cause x.why (J := fun v w' => v = .agg #[.int .i64 x.at.1, .string x.at.2] ∧ Ctx W w' (R ++ G) Φ) c ?_).mono fun e w' ⟨v, he, hv, c'⟩ => ⟨_, _, by rw [he, hv], R, Φ, inferInstance, c', hk⟩
  clear c
  refine fun _ _ => ⟨R ++ G, Φ, inferInstance, fun w G2 cx => cx, fun w G2 cx => (RowBytes_in r rc x.row hT.go hX.go hlen ht).toS cx ⟨fun w G2 cx => cx, fun w G2 cx => ⟨rfl, cx.left⟩⟩⟩

theorem check1_in [Stable Φ] (x : LineD) (r : Option Addr) (rc : Nat) [hX : Has Φ (fun M w => Sl M w r x.row)] : GivesIn Φ Tryz.prog F.ledger_Ledger_check_1 (Array.mk (x.v r rc :: [])) (.bool (!rightR x.row)) :=
  gives_in (Bledger_Ledger_check_1_run x.no x.batch x.time r x.row.length rc x.n x.cause x.why) fun W R => fun _ w G cx => (RightRow_in (r := x.row)).toB cx fun w G cx => ⟨rfl, cx.left⟩
end
end Go.Proofs.YtbkpfhhhbhaecaaGreatDoor
end

/-
  What a ledger checks ahead of appending: walked.
-/
section
set_option linter.unusedVariables false
set_option linter.unusedSimpArgs false
namespace Go.Proofs.YtbkpfhhhbhaecaaGreatDoor
open Go.Vc


/-! ### plain -/
def okLine (nx no mark lm : Int) (x : LineD) : Bool := decide (x.no = nx) && decide (x.batch = no) && decide (0 ≤ x.time) && decide (x.time ≤ mark) && decide (x.n ≠ 0) && causedP x lm
def ascO : Option LineD → LineD → Bool
  | none, _ => true
  | some y, x => ascP y x
def okFrom (no mark lm : Int) : Int → Option LineD → List LineD → Bool
  | _, _, [] => true
  | nx, pv, x :: l => okLine nx no mark lm x && ascO pv x && okFrom no mark lm (nx + 1) (some x) l
def prevAt (L : List LineD) (i : Nat) : Option LineD := if i = 0 then none else L[i - 1]?
theorem okFrom_drop {no mark lm nx : Int} {L : List LineD} {i : Nat} (h : i < L.length) : okFrom no mark lm (nx + i) (prevAt L i) (L.drop i) = (okLine (nx + i) no mark lm L[i] && ascO (prevAt L i) L[i] && okFrom no mark lm (nx + ((i + 1 : Nat) : Int)) (prevAt L (i + 1)) (L.drop (i + 1))) := by
  rw [List.drop_eq_getElem_cons h]
  have e : prevAt L (i + 1) = some L[i] := by unfold prevAt; rw [if_neg (by omega), Nat.add_sub_cancel, List.getElem?_eq_getElem h]
  rw [e, show nx + ((i + 1 : Nat) : Int) = nx + i + 1 by omega]
  rfl
def overP (st : LedD) (x : LineD) : Bool := decide (x.n < 0 - cntL st.lines x.at) || decide (1152921504606846976 - cntL st.lines x.at < x.n)
def checkP (st : LedD) (no mark : Int) (L : List LineD) : Int :=
  if no ≤ (lastP st).no then 25 else if mark < (lastP st).mark then 25 else if 1099511627776 < mark then 25
  else if okFrom no mark (lastP st).mark (st.lines.length + 1) none L = false then 1
  else if (L.any fun x => !rightR x.row) = true then 16 else if L.any (overP st) = true then 7 else 0

theorem right_text {r : List ValD} (h : rightR r = true) : ∀ v ∈ r, v.text.size ≤ 10000 := fun v hv => by
  unfold rightR at h
  rw [Bool.and_eq_true] at h
  have h := List.all_eq_true.1 h.2 v hv
  unfold rightV3 at h
  split at h
  · have h := of_decide_eq_true h
    rw [h]; decide
  · split at h
    · rw [Bool.and_eq_true] at h
      have := of_decide_eq_true h.2
      omega
    · rw [Bool.and_eq_true] at h
      have h := of_decide_eq_true h.2
      rw [h]; decide
theorem right_text2 {r : List ValD} (h : rightR r = true) : ∀ v ∈ r, v.text.size ≤ 200 := fun v hv => by
  unfold rightR at h
  rw [Bool.and_eq_true] at h
  have h := List.all_eq_true.1 h.2 v hv
  unfold rightV3 at h
  split at h
  · have h := of_decide_eq_true h
    rw [h]; decide
  · split at h
    · rw [Bool.and_eq_true] at h
      have := of_decide_eq_true h.2
      omega
    · rw [Bool.and_eq_true] at h
      have h := of_decide_eq_true h.2
      rw [h]; decide
def CntOk (st : LedD) : Prop := ∀ k, 0 ≤ cntL st.lines k ∧ cntL st.lines k ≤ 1152921504606846976

section
variable {Φ : PW} {q : LP} {st : LedD} {W w : World} {R S G : List Own} {p : Option Addr} {cap : Nat} {L : List LineD} {cs : List Value}

abbrev Rows7 (cs : List Value) (l : List LineD) : Prop := ∀ i (h : i < l.length), ∃ r rc, (cs.drop (i * 7)).take 7 = l[i].cells r rc ∧ l[i].row.length ≤ rc ∧ rc ≤ maxLen ∧ l[i].In
theorem rows7 {M : List Nat} (h : Elems M w cs L) : Rows7 cs L := fun i hi => by
  obtain ⟨r, rc, he, h1, h2, h3, _⟩ := lrow h hi
  exact ⟨r, rc, he, h1, h2, h3⟩
theorem src_at (src : Src S Φ p L cs) {b o i : Nat} (hp : p = some ⟨b, o, none⟩) (c : Ctx W w (S ++ G) Φ) {x : LineD} {r : Option Addr} {rc : Nat} (he : (cs.drop (i * 7)).take 7 = x.cells r rc) : RowAt w b (o + i * 7) (x.cells r rc) := fun j hj => by
  have := src.rd hp c (i * 7 + j) _ (rows_of (vs := x.cells r rc) he j hj)
  rw [← Nat.add_assoc] at this
  exact this

theorem IndexL_in [Stable Φ] (src : Src [] Φ p L cs) (hc : Rows7 cs L) (hlen : L.length ≤ 1000000) : GivesIn Φ Tryz.prog F.slices_ContainsFunc_api_Line_api_Line #[.slice p L.length cap, .func (.func F.ledger_Ledger_check_1) #[] #[]] (.bool (L.any fun x => !rightR x.row)) := by
  have hidx : GivesIn Φ Tryz.prog F.slices_IndexFunc_api_Line_api_Line #[.slice p L.length cap, .func (.func F.ledger_Ledger_check_1) #[] #[]] (.int .i64 (findI (fun x => !rightR x.row) 0 L)) := by
    refine gives_in (Bslices_IndexFunc_api_Line_api_Line_run p L.length cap F.ledger_Ledger_check_1 #[]) fun W R => ?_
    refine exI_mk (fun n R' Φ' k => ∃ i : Nat, n = i ∧ i ≤ L.length ∧ R' = R ∧ Φ' = Φ ∧ k = L.length - i ∧ findI (fun x : LineD => !rightR x.row) 0 L = findI (fun x : LineD => !rightR x.row) i (L.drop i)) ⟨⟨R, Φ, _, inferInstance, fun w F c => c, 0, rfl, Nat.zero_le _, rfl, rfl, rfl, rfl⟩, ?_⟩
    rintro n R1 Φ1 k _ ⟨i, rfl, hi, rfl, rfl, rfl, hor⟩
    refine Br.intro (fun hlt => ?_) (fun hge => fun w F cx => ⟨?_, cx.left⟩)
    · have hlt : i < L.length := by simpa using hlt
      rw [findI_drop _ L i hlt] at hor
      obtain ⟨b, o, hp⟩ := src.ptr (by omega)
      obtain ⟨r, rc, he, h1, h2, h3⟩ := hc i hlt
      have hh : Has Φ1 (fun M w => Sl M w r L[i].row) := ⟨fun M w h => src_sl src hlt he h⟩
      refine ⟨by omega, ptrK_intro b o hp fun w F cx => ⟨L[i].no, L[i].batch, L[i].time, r, L[i].row.length, rc, L[i].n, L[i].cause, L[i].why, by rw [Int.toNat_natCast]; exact src_at (G := R1 ++ F) src hp cx he, fun w F cx => ⟨by kernel_rfl, (check1_in L[i] r rc).use cx fun w cx => ⟨!rightR L[i].row, rfl, R1, Φ1, inferInstance, cx, Br.intro (fun h => fun w F cx => ⟨?_, cx.left⟩) (fun h => ⟨by unfold I64; omega, R1, Φ1, L.length - (i + 1), inferInstance, fun w F c => c, ⟨i + 1, rfl, hlt, rfl, rfl, rfl, ?_⟩, by omega⟩)⟩⟩⟩⟩
      · rw [hor, if_pos h]
      · rw [hor, if_neg (by rw [h]; simp)]
    · have hge : i = L.length := Nat.le_antisymm hi (by simpa using hge)
      rw [hor, hge, List.drop_length]
      rfl
  refine gives_in (Bslices_ContainsFunc_api_Line_api_Line_run p L.length cap F.ledger_Ledger_check_1 #[]) fun W R => ?_
  exact fun w G cx => hidx.toI cx fun w G cx => ⟨by rw [findI_any], cx.left⟩

set_option maxHeartbeats 4000000 in
theorem Check_q [Stable Φ] {no mark : Int} [hT : Has Φ TabI] (hq : LedQ q st) (hs : LedS st) (hk : CntOk st) (src : Src [] Φ p L cs) (hlen : L.length ≤ 1000000) (hrow : ∀ x ∈ L, x.row.length ≤ 1000000) :
    GivesQ (LedO q st) Φ Tryz.prog F.ledger_Ledger_check #[led q, .int .i64 no, .int .i64 mark, .slice p L.length cap] (.int .i64 (checkP st no mark L)) := by
  have hsl := hs.lines
  refine gives_q (Bledger_Ledger_check_run q.lb 0 no mark p L.length cap) fun W R => fun w G cx => ?_
  have hc : Rows7 cs L := rows7 (src.el _ _ cx.phi)
  refine (Last_q hq hs).toI cx ?_
  clear cx
  unfold checkP
  refine Br.intro (fun h => fun w G cx => ⟨by rw [if_pos (of_decide_eq_true h)], cx.left⟩) (fun h => ?_)
  rw [if_neg (of_decide_eq_false h)]
  refine fun w G cx => (Mark_q hq hs).toI cx ?_
  clear cx
  refine Br.intro (fun h => fun w G cx => ⟨by rw [if_pos (of_decide_eq_true h)], cx.left⟩) (fun h => ?_)
  rw [if_neg (of_decide_eq_false h)]
  refine Br.intro (fun h => fun w G cx => ⟨by rw [if_pos (of_decide_eq_true h)], cx.left⟩) (fun h => ?_)
  rw [if_neg (of_decide_eq_false h)]
  have hsrcR : ∀ {i : Nat} (hi : i < L.length) {r : Option Addr} {rc : Nat}, (cs.drop (i * 7)).take 7 = L[i].cells r rc → Has Φ (fun M w => Sl M w r L[i].row) := fun {i} hi {r rc} he => ⟨fun M w h => src_sl src hi he h⟩
  obtain ⟨lm, hlm⟩ : ∃ lm, (lastP st).mark = lm := ⟨_, rfl⟩
  rw [hlm]
  refine exI_mk (fun iI R' Φ' k => ∃ i : Nat, iI = i ∧ i ≤ L.length ∧ R' = LedO q st ++ R ∧ Φ' = Φ ∧ k = L.length - i ∧ okFrom no mark lm (st.lines.length + 1) none L = okFrom no mark lm (((st.lines.length : Int) + 1) + i) (prevAt L i) (L.drop i)) ⟨⟨_, _, _, inferInstance, fun w G cx => cx, 0, rfl, Nat.zero_le _, rfl, rfl, rfl, ?_⟩, ?_⟩
  · rw [Int.natCast_zero, Int.add_zero]; rfl
  rintro iI R1 Φ1 k _ ⟨i, rfl, hi, rfl, rfl, rfl, hor⟩
  refine Br.intro (fun hlt => ?_) (fun hge => fun w G cx => ?_)
  · have hlt : i < L.length := by have := of_decide_eq_true hlt; omega
    obtain ⟨b, o, hp⟩ := src.ptr (by omega)
    obtain ⟨r, rc, he, h1, h2, h3⟩ := hc i hlt
    have hhi := hsrcR hlt he
    rw [okFrom_drop hlt] at hor
    have bad : (okLine (((st.lines.length : Int) + 1) + i) no mark lm L[i] && ascO (prevAt L i) L[i]) = false → okFrom no mark lm (st.lines.length + 1) none L = false := fun h => by rw [hor, h, Bool.false_and]
    have stop : okFrom no mark lm (st.lines.length + 1) none L = false → ∀ {w : World} {G : List Own}, Ctx W w ((LedO q st ++ R) ++ G) Φ1 → (Value.int .i64 1) = .int .i64 (if okFrom no mark lm (st.lines.length + 1) none L = false then 1 else if (L.any fun x => !rightR x.row) = true then 16 else if L.any (overP st) = true then 7 else 0) ∧ Ctx W w (LedO q st ++ R) Φ1 := fun h {w G} cx => ⟨by rw [if_pos h], cx.left⟩
    refine ⟨by omega, ptrK_intro b o hp fun w G cx => ⟨L[i].no, L[i].batch, L[i].time, r, L[i].row.length, rc, L[i].n, L[i].cause, L[i].why, by rw [Int.toNat_natCast]; exact src_at (G := (LedO q st ++ R) ++ G) src hp cx he, fun _ => ⟨LedO q st ++ R, Φ1, inferInstance, fun w G cx => cx, fun w G cx => (Next_q hs).toI cx ⟨fun w G cx => cx, by unfold I64; omega, ?_⟩⟩⟩⟩
    clear cx
    refine Br.intro (fun h => ⟨LedO q st ++ R, Φ1, inferInstance, fun w G cx => cx, fun w G cx => stop (bad ?_) cx⟩) (fun g1 => ?_)
    · unfold okLine; rw [decide_eq_false (of_decide_eq_true h)]; rfl
    refine Br.intro (fun h => ⟨LedO q st ++ R, Φ1, inferInstance, fun w G cx => cx, fun w G cx => stop (bad ?_) cx⟩) (fun g2 => ?_)
    · unfold okLine; rw [decide_eq_false (of_decide_eq_true h)]; simp
    refine Br.intro (fun h => ⟨LedO q st ++ R, Φ1, inferInstance, fun w G cx => cx, fun w G cx => stop (bad ?_) cx⟩) (fun g3 => ?_)
    · unfold okLine; rw [decide_eq_false (p := 0 ≤ L[i].time) (by have := of_decide_eq_true h; omega)]; simp
    refine Br.intro (fun h => ⟨LedO q st ++ R, Φ1, inferInstance, fun w G cx => cx, fun w G cx => stop (bad ?_) cx⟩) (fun g4 => ?_)
    · unfold okLine; rw [decide_eq_false (p := L[i].time ≤ mark) (by have := of_decide_eq_true h; omega)]; simp
    refine Br.intro (fun h => ⟨LedO q st ++ R, Φ1, inferInstance, fun w G cx => cx, fun w G cx => stop (bad ?_) cx⟩) (fun g5 => ?_)
    · unfold okLine; rw [decide_eq_false (p := L[i].n ≠ 0) (fun e => e (of_decide_eq_true h))]; simp
    have hokl : okLine (((st.lines.length : Int) + 1) + i) no mark lm L[i] = causedP L[i] lm := by
      unfold okLine
      rw [decide_eq_true (Decidable.not_not.1 (of_decide_eq_false g1)), decide_eq_true (Decidable.not_not.1 (of_decide_eq_false g2)), decide_eq_true (p := 0 ≤ L[i].time) (by have := of_decide_eq_false g3; omega), decide_eq_true (p := L[i].time ≤ mark) (by have := of_decide_eq_false g4; omega), decide_eq_true (p := L[i].n ≠ 0) (of_decide_eq_false g5)]
      rfl
    refine fun w G cx => (Mark_q hq hs).toI cx ?_
    clear cx
    rw [hlm]
    refine ⟨fun w G cx => cx, fun w G cx => (caused_in L[i] r rc lm).toB cx ⟨LedO q st ++ R, Φ1, inferInstance, fun w G cx => cx, ?_⟩⟩
    clear cx
    refine Br.intro (fun h => fun w G cx => stop (bad ?_) cx) (fun g6 => ?_)
    · rw [hokl, show causedP L[i] lm = false by simpa using h]; rfl
    have g6 : causedP L[i] lm = true := by simpa using g6
    refine Br.intro (fun g7 => ?_) (fun g7 => ?_)
    · have g7 : 0 < i := by have := of_decide_eq_true g7; omega
      have hi0 : i - 1 < L.length := by omega
      obtain ⟨r0, rc0, he0, k1, k2, k3⟩ := hc (i - 1) (by omega)
      have hh0 := hsrcR (i := i - 1) (by omega) he0
      have hpv : prevAt L i = some (L[i - 1]'hi0) := by unfold prevAt; rw [if_neg (by omega), List.getElem?_eq_getElem (by omega)]
      refine ⟨by unfold I64; omega, by omega, ptrK_intro b o hp ⟨(L[i - 1]'hi0).no, (L[i - 1]'hi0).batch, (L[i - 1]'hi0).time, r0, (L[i - 1]'hi0).row.length, rc0, (L[i - 1]'hi0).n, (L[i - 1]'hi0).cause, (L[i - 1]'hi0).why, fun w G cx => ⟨_, _, _, _, _, _, _, _, _, by rw [show ((i : Int) - 1).toNat = i - 1 by omega]; exact src_at (G := (LedO q st ++ R) ++ G) src hp cx he0, rfl⟩, fun w G cx => (asc_in (L[i - 1]'hi0) L[i] r0 rc0 r rc (hrow _ (List.getElem_mem _))).toB cx ?_⟩⟩
      clear cx
      refine Br.intro (fun h => fun w G cx => stop (bad ?_) cx) (fun g8 => ⟨by unfold I64; omega, _, _, L.length - (i + 1), inferInstance, fun w G cx => cx, ⟨i + 1, rfl, hlt, rfl, rfl, rfl, ?_⟩, by omega⟩)
      · rw [hpv]
        show (_ && ascP _ _) = false
        rw [show ascP (L[i - 1]'hi0) L[i] = false by simpa using h, Bool.and_false]
      · rw [hor, hokl, g6, hpv]
        show (true && ascP _ _ && _) = _
        rw [show ascP (L[i - 1]'hi0) L[i] = true by simpa using g8]
        rfl
    · have g7 : i = 0 := by have := of_decide_eq_false g7; omega
      refine ⟨by unfold I64; omega, _, _, L.length - (i + 1), inferInstance, fun w G cx => cx, ⟨i + 1, rfl, hlt, rfl, rfl, rfl, ?_⟩, by omega⟩
      have hpv : prevAt L i = none := by unfold prevAt; rw [if_pos g7]
      rw [hor, hokl, g6, hpv]
      rfl
  have hge : i = L.length := by have := of_decide_eq_false hge; omega
  subst hge
  rw [List.drop_length] at hor
  have hor : okFrom no mark lm (st.lines.length + 1) none L = true := hor
  rw [if_neg (by rw [hor]; simp)]
  refine (IndexL_in src hc hlen).toB cx ?_
  clear cx
  refine Br.intro (fun h => fun w G cx => ⟨by rw [if_pos h], cx.left⟩) (fun h => ?_)
  rw [if_neg (by rw [h]; simp)]
  refine exI_mk (fun iI R' Φ' k => ∃ i : Nat, iI = i ∧ i ≤ L.length ∧ R' = LedO q st ++ R ∧ Φ' = Φ1 ∧ k = L.length - i ∧ L.any (overP st) = (L.drop i).any (overP st)) ⟨⟨_, _, _, inferInstance, fun w G cx => cx, 0, rfl, Nat.zero_le _, rfl, rfl, rfl, rfl⟩, ?_⟩
  rintro iI R1 Φ2 k _ ⟨i, rfl, hi, rfl, rfl, rfl, hov⟩
  refine Br.intro (fun hlt => ?_) (fun hge => fun w G cx => ⟨?_, cx.left⟩)
  · have hlt : i < L.length := by have := of_decide_eq_true hlt; omega
    obtain ⟨b, o, hp⟩ := src.ptr (by omega)
    obtain ⟨r, rc, he, h1, h2, h3⟩ := hc i hlt
    have hhi := hsrcR hlt he
    rw [List.drop_eq_getElem_cons hlt, List.any_cons] at hov
    obtain ⟨c1, c2⟩ := hk L[i].at
    have hcnt := hq.cnt L[i].at
    refine ⟨by omega, ptrK_intro b o hp fun w G cx => ⟨L[i].no, L[i].batch, L[i].time, r, L[i].row.length, rc, L[i].n, L[i].cause, L[i].why, by rw [Int.toNat_natCast]; exact src_at (G := (LedO q st ++ R) ++ G) src hp cx he, fun _ => ⟨LedO q st ++ R, Φ2, inferInstance, fun w G cx => cx, some q.mb, fun w G cx => ⟨some q.mb, led_cell (i := 2) cx rfl, rfl⟩, fun w G cx => ?_⟩⟩⟩
    refine at_use L[i] r rc (hrow _ (List.getElem_mem _)) (right_text (by simpa using List.any_eq_false.1 h _ (List.getElem_mem hlt))) cx ⟨fun w G cx => cx, fun w G cx => ⟨getM q.es L[i].at, fun w2 hw2 => run_lookupM keyTy (by rw [hw2]; exact led_map cx) L[i].at, fun w G cx => ?_⟩⟩
    clear cx
    rw [hcnt]
    refine ⟨by unfold I64; omega, fun _ => by unfold I64; omega, ?_⟩
    have hoi : (decide (L[i].n < 0 - cntL st.lines L[i].at) || decide (1152921504606846976 - cntL st.lines L[i].at < L[i].n)) = overP st L[i] := rfl
    rw [hoi]
    refine Br.intro (fun h => fun w G cx => ⟨by rw [hov, h]; rfl, cx.left⟩) (fun h => ⟨by unfold I64; omega, _, _, L.length - (i + 1), inferInstance, fun w G cx => cx, ⟨i + 1, rfl, hlt, rfl, rfl, rfl, by rw [hov, h]; rfl⟩, by omega⟩)
  · have hge : i = L.length := by have := of_decide_eq_false hge; omega
    subst hge
    rw [List.drop_length] at hov
    rw [hov]; rfl
end
end Go.Proofs.YtbkpfhhhbhaecaaGreatDoor
end

/-
  The reader of encodings: in plain Lean, and walked.
-/
section
set_option linter.unusedVariables false
set_option linter.unusedSimpArgs false
namespace Go.Vc
/-- a variable that holds an error, or none, in a block that nobody writes -/
def ErrAt (g : Nat) : PW := fun M w => g ∉ M ∧ ∃ ev, w.cell? ⟨g, 0, none⟩ = some ev ∧ (ev = .nilIface ∨ ∃ te pe, ev = .iface te pe)
instance instStableErrAt (g : Nat) : Stable (ErrAt g) := ⟨fun {M M' w w'} hs ⟨h1, ev, h2, h3⟩ => by
  have hlt : g < w.heap.size := by
    rcases Nat.lt_or_ge g w.heap.size with h' | h'
    · exact h'
    · simp [World.cell?, Array.getElem?_eq_none h'] at h2
  refine ⟨fun hm => ?_, ev, hs.chg.cell h2 h1, h3⟩
  rcases hs.sub g hm with h | h
  · exact h1 h
  · omega⟩
theorem chg_below {w w' : World} (h : Go.RowKit.Below w.heap.size w w') : Chg [] w w' := ⟨h.os, h.tape, h.output, h.size, fun k hk _ => h.block k hk⟩
theorem eqGuard_iface {P : Program} {op : BinOp} {t : TypeId} {ox oy : Operand} {u : TypeId} {v : Value} (w : World) : (eqGuard op t ox oy (.iface u v) .nilIface).run P w = .ok () w := by
  unfold eqGuard
  cases op <;> rfl
theorem eqGuard_nil {P : Program} {op : BinOp} {t : TypeId} {k : Nat} {v : Value} (w : World) : (eqGuard op t (.tmp k) (.const v) .nilIface .nilIface).run P w = .ok () w := by
  unfold eqGuard
  cases op <;> rfl
theorem neq_nil {P : Program} {op : BinOp} {t t' : TypeId} {k : Nat} {v : Value} (ht : P.isIface t' = true) (w : World) : ((eqGuard op t (.tmp k) (.const v) .nilIface .nilIface) >>= fun _ => binOp .neq t' .nilIface .nilIface).run P w = .ok (.bool false) w := by
  rw [Sem.run_bind, eqGuard_nil]
  exact Go.run_neq_nil_nil_at w t' ht
theorem neq_err {P : Program} {op : BinOp} {t t' : TypeId} {ox oy : Operand} {u : TypeId} {v : Value} (ht : P.isIface t' = true) (w : World) : ((eqGuard op t ox oy (.iface u v) .nilIface) >>= fun _ => binOp .neq t' (.iface u v) .nilIface).run P w = .ok (.bool true) w := by
  rw [Sem.run_bind, eqGuard_iface]
  exact Go.run_neq_iface_nil w t' ht u v
end Go.Vc
namespace Go.Proofs.YtbkpfhhhbhaecaaGreatDoor
open Go.Vc


/-- what the reading of numbers looks at -/
def NumI : PW := fun M w => TabI M w ∧ ErrAt 2 M w ∧ ErrAt 3 M w
instance instStableNumI : Stable NumI := instStableAnd TabI (fun M w => ErrAt 2 M w ∧ ErrAt 3 M w)

/-! ### in plain Lean -/
def bs (l : List UInt8) : ByteArray := ⟨l.toArray⟩
theorem bs_list (l : List UInt8) : (bs l).data.toList = l := rfl
theorem bs_size (l : List UInt8) : (bs l).size = l.length := size_list l
theorem bs_ext (l : List UInt8) (a b : Nat) : (bs l).extract a b = bs ((l.drop a).take (b - a)) := by
  apply ByteArray.ext
  apply Array.toList_inj.1
  rw [ByteArray.data_extract, Array.toList_extract]
  rfl
theorem bs_inj {a b : List UInt8} : bs a = bs b ↔ a = b := ⟨fun h => by have := congrArg (fun x => x.data.toList) h; exact this, fun h => by rw [h]⟩
/-- what is left, and whether it has failed -/
abbrev RdS := List UInt8 × Bool
def numP (e : UInt8) (least : Int) (l : List UInt8) : Option (Int × List UInt8) :=
  let i := Lib.indexByte (l.take 21) e
  if i < 0 then none else match Lib.atoiAll (l.take i.toNat) with
    | .ok n => if Lib.itoa n = l.take i.toNat ∧ least ≤ n then some (n, l.drop (i.toNat + 1)) else none
    | _ => none
def stepN (e : UInt8) (least : Int) (st : RdS) : Int × RdS := match numP e least st.1 with
  | some (n, r) => (n, (r, st.2))
  | none => (0, ([], true))
def stepC (c : UInt8) (st : RdS) : RdS := match st.1 with
  | [] => ([], true)
  | x :: r => if x = c then (r, st.2) else ([], true)
def stepT (st : RdS) : ByteArray × RdS :=
  let a := stepN 58 0 st
  if (a.2.1.length : Int) < a.1 then (ByteArray.mk #[], ([], true)) else
    let c := stepC 44 (a.2.1.drop a.1.toNat, a.2.2)
    (if c.2 then ByteArray.mk #[] else bs (a.2.1.take a.1.toNat), c)

theorem at_of_split {l r : List UInt8} {i : Nat} {e : UInt8} (h : l.take i ++ e :: r = l) (hi : i < l.length) : l[i]? = some e := by
  have hl : (l.take i).length = i := by rw [List.length_take]; omega
  rw [← h, List.getElem?_append_right (by omega), hl, Nat.sub_self]
  rfl
theorem index_neg : ∀ (l : List UInt8) (c : UInt8), -1 ≤ Lib.indexByte l c ∧ (Lib.indexByte l c = -1 ∨ (0 ≤ Lib.indexByte l c ∧ Lib.indexByte l c < l.length ∧ l.take (Lib.indexByte l c).toNat ++ c :: l.drop ((Lib.indexByte l c).toNat + 1) = l ∧ c ∉ l.take (Lib.indexByte l c).toNat))
  | [], c => by simp [Lib.indexByte]
  | b :: l, c => by
    have ih := index_neg l c
    unfold Lib.indexByte
    by_cases hb : (b == c) = true
    · rw [if_pos hb]
      have : b = c := by simpa using hb
      subst this
      refine ⟨by omega, .inr ⟨by omega, by simp, by simp, by simp⟩⟩
    · rw [if_neg hb]
      by_cases h1 : (Lib.indexByte l c == -1) = true
      · rw [if_pos h1]; exact ⟨by omega, .inl rfl⟩
      · rw [if_neg h1]
        have h1 : Lib.indexByte l c ≠ -1 := by simpa using h1
        obtain ⟨h2, h3⟩ := ih
        rcases h3 with h3 | ⟨h3, h4, h5, h6⟩
        · exact absurd h3 h1
        · have e : (Lib.indexByte l c + 1).toNat = (Lib.indexByte l c).toNat + 1 := by omega
          refine ⟨by omega, .inr ⟨by omega, by simp; omega, ?_, ?_⟩⟩
          · rw [e, List.take_succ_cons, List.drop_succ_cons, List.cons_append, h5]
          · rw [e, List.take_succ_cons, List.mem_cons, not_or]
            exact ⟨fun e => hb (by simp [e]), h6⟩

theorem index_least {l : List UInt8} {c : UInt8} {a r : List UInt8} (hl : l = a ++ c :: r) (hc : c ∉ a) : Lib.indexByte l c = a.length := by
  subst hl
  induction a with
  | nil => simp [Lib.indexByte]
  | cons b a ih =>
    have hb : b ≠ c := fun e => hc (by simp [e])
    have ih := ih fun h => hc (by simp [h])
    rw [List.cons_append]
    unfold Lib.indexByte
    rw [if_neg (by simpa using hb), if_neg (by rw [ih]; simp), ih]
    simp

/-- digits and the sign -/
theorem digits_chars : ∀ (u : Nat), ∀ c ∈ Lib.decDigits u, 48 ≤ c.toNat ∧ c.toNat ≤ 57 := by
  intro u
  induction u using Nat.strongRecOn with
  | _ u ih =>
    intro c hc
    rw [Lib.decDigits] at hc
    split at hc
    · rename_i h
      rw [List.mem_singleton] at hc
      subst hc
      have : (UInt8.ofNat (48 + u)).toNat = 48 + u := by simp; omega
      omega
    · rename_i h
      rcases List.mem_append.1 hc with hc | hc
      · exact ih (u / 10) (by omega) c hc
      · rw [List.mem_singleton] at hc
        subst hc
        have : (UInt8.ofNat (48 + u % 10)).toNat = 48 + u % 10 := by simp; omega
        omega
theorem itoa_chars {n : Int} {c : UInt8} (h : c ∈ Lib.itoa n) : c.toNat = 45 ∨ 48 ≤ c.toNat ∧ c.toNat ≤ 57 := by
  unfold Lib.itoa at h
  split at h
  · rcases List.mem_cons.1 h with rfl | h
    · left; rfl
    · right; exact digits_chars _ c h
  · right; exact digits_chars _ c h

/-! ### the decimal form, read back -/
def digV (acc : Nat) (l : List UInt8) : Nat := l.foldl (fun a c => a * 10 + (c.toNat - 48)) acc
theorem digV_snoc (acc : Nat) (l : List UInt8) (c : UInt8) : digV acc (l ++ [c]) = digV acc l * 10 + (c.toNat - 48) := by simp [digV]
theorem digV_dec : ∀ u : Nat, digV 0 (Lib.decDigits u) = u := by
  intro u
  induction u using Nat.strongRecOn with
  | _ u ih =>
    rw [Lib.decDigits]
    split
    · rename_i h
      show 0 * 10 + ((UInt8.ofNat (48 + u)).toNat - 48) = u
      have : (UInt8.ofNat (48 + u)).toNat = 48 + u := by simp; omega
      omega
    · rename_i h
      rw [digV_snoc, ih (u / 10) (by omega)]
      have : (UInt8.ofNat (48 + u % 10)).toNat = 48 + u % 10 := by simp; omega
      omega
theorem digV_mono : ∀ (l : List UInt8) (acc : Nat), acc ≤ digV acc l
  | [], acc => Nat.le_refl _
  | c :: l, acc => by
    have := digV_mono l (acc * 10 + (c.toNat - 48))
    show acc ≤ digV (acc * 10 + (c.toNat - 48)) l
    omega
theorem parse_dig : ∀ (l : List UInt8) (acc : Nat), (∀ c ∈ l, 48 ≤ c.toNat ∧ c.toNat ≤ 57) → digV acc l < 18446744073709551616 → Lib.parseUint10 acc l = .ok (digV acc l)
  | [], acc, _, _ => rfl
  | c :: l, acc, hc, h => by
    have h0 := hc c (by simp)
    have hm := digV_mono l (acc * 10 + (c.toNat - 48))
    have e : digV acc (c :: l) = digV (acc * 10 + (c.toNat - 48)) l := rfl
    rw [e] at h ⊢
    unfold Lib.parseUint10
    rw [if_pos h0, if_neg (by omega), if_neg (by omega)]
    exact parse_dig l _ (fun d hd => hc d (by simp [hd])) h

theorem dec_ne (u : Nat) : Lib.decDigits u ≠ [] := by
  intro e
  have h1 := Lib.decDigits_length u
  have h2 := Lib.nDigits_pos u
  rw [e] at h1
  simp at h1
  omega
theorem mag_dec {u : Nat} (h : u < 18446744073709551616) : Lib.parseMag (Lib.decDigits u) = .ok u := by
  unfold Lib.parseMag
  rw [if_neg (dec_ne u), parse_dig _ 0 (digits_chars u) (by rw [digV_dec]; exact h), digV_dec]

theorem atoi_itoa {n : Int} (h : I64 n) : Lib.atoiAll (Lib.itoa n) = .ok n := by
  unfold I64 at h
  unfold Lib.itoa
  split
  · rename_i hn
    have hm := mag_dec (u := n.natAbs) (by omega)
    unfold Lib.atoiAll
    simp only
    rw [if_pos (.inr rfl), hm]
    simp only
    have e45 : (45 : UInt8).toNat = 45 := rfl
    rw [if_neg (by intro h; exact h.1 e45), if_neg (by intro h; omega), if_pos e45]
    congr 1
    omega
  · rename_i hn
    have hm := mag_dec (u := n.toNat) (by omega)
    obtain ⟨c, r, hcr⟩ : ∃ c r, Lib.decDigits n.toNat = c :: r := by
      cases hd : Lib.decDigits n.toNat with
      | nil => exact absurd hd (dec_ne _)
      | cons c r => exact ⟨c, r, rfl⟩
    have h0 := digits_chars n.toNat c (by rw [hcr]; simp)
    rw [hcr] at hm ⊢
    unfold Lib.atoiAll
    simp only
    rw [if_neg (by omega), hm]
    simp only
    rw [if_neg (by omega), if_neg (by omega), if_neg (by omega)]
    congr 1
    omega

/-- what a number's reading says -/
theorem numP_iff {e : UInt8} (he : e.toNat = 58 ∨ e.toNat = 59 ∨ e.toNat = 91) {least : Int} {l : List UInt8} {n : Int} {r : List UInt8} : numP e least l = some (n, r) ↔ (I64 n ∧ least ≤ n) ∧ l = Lib.itoa n ++ e :: r := by
  have hne : ∀ n : Int, e ∉ Lib.itoa n := fun n h => by have := itoa_chars h; omega
  constructor
  · intro h
    unfold numP at h
    simp only at h
    split at h
    · cases h
    · rename_i hi
      split at h
      · rename_i m hm
        split at h
        · rename_i hc
          cases h
          have hb := Lib.atoiAll_bounds hm
          obtain ⟨_, h3⟩ := index_neg (l.take 21) e
          rcases h3 with h3 | ⟨h3, h4, h5, h6⟩
          · omega
          · refine ⟨⟨by unfold I64; omega, hc.2⟩, ?_⟩
            rw [hc.1]
            have hlt : (Lib.indexByte (l.take 21) e).toNat < (l.take 21).length := by omega
            have hlt2 : (Lib.indexByte (l.take 21) e).toNat < l.length := by rw [List.length_take] at hlt; omega
            have hg : l[(Lib.indexByte (l.take 21) e).toNat] = e := by
              have h7 : (l.take 21)[(Lib.indexByte (l.take 21) e).toNat]? = some e := at_of_split h5 (by omega)
              rw [List.getElem?_take_of_lt (by rw [List.length_take] at hlt; omega), List.getElem?_eq_getElem hlt2] at h7
              exact Option.some.inj h7
            conv => lhs; rw [← List.take_append_drop (Lib.indexByte (l.take 21) e).toNat l, List.drop_eq_getElem_cons hlt2, hg]
        · cases h
      · cases h
  · rintro ⟨⟨h1, h2⟩, rfl⟩
    have hlen := itoa_len h1
    have ht : (Lib.itoa n ++ e :: r).take 21 = Lib.itoa n ++ e :: r.take (20 - (Lib.itoa n).length) := by
      rw [List.take_append, List.take_of_length_le (by omega)]
      congr 1
      rw [show 21 - (Lib.itoa n).length = (20 - (Lib.itoa n).length) + 1 by omega, List.take_succ_cons]
    have hi := index_least ht (hne n)
    unfold numP
    simp only
    rw [hi, if_neg (by omega), Int.toNat_natCast, List.take_left', atoi_itoa h1]
    · simp only
      rw [if_pos ⟨by simp, h2⟩]
      congr 2
      rw [List.drop_append, List.drop_of_length_le (by omega), List.nil_append, show (Lib.itoa n).length + 1 - (Lib.itoa n).length = 1 by omega]
      rfl
    · rfl

/-! ### walked -/
abbrev rd (b : Nat) (st : RdS) : Own := .blk b [.string (bs st.1), .bool st.2] 119

section
variable {W w : World} {R G S : List Own} {Φ : PW} {b : Nat} {st : RdS}

theorem Open_use [Stable Φ] (l : List UInt8) (c : Ctx W w S Φ) {K : Ending → World → Prop} (hk : ∀ b w', Ctx W w' (rd b (l, false) :: S) Φ → K (.returned (.pointer (some ⟨b, 0, none⟩))) w') :
    Calls Tryz.prog F.wire_Open #[.string (bs l)] w K := by
  refine (Bwire_Open_run (bs l) (J := fun u w' => K (.returned u) w') c ?_).mono fun e w' ⟨v, he, hj⟩ => by rw [he]; exact hj
  exact fun b w G cx => hk b w (Ctx.left (S := rd b (l, false) :: S) cx)

theorem fail_use [Stable Φ] (c : Ctx W w (rd b st :: S) Φ) {K : Ending → World → Prop} (hk : ∀ w', Ctx W w' (rd b ([], true) :: S) Φ → K (.returned (.tuple #[])) w') :
    Calls Tryz.prog F.wire_Reader_fail #[.pointer (some ⟨b, 0, none⟩)] w K := by
  refine (Bwire_Reader_fail_run b 0 (J := fun u w' => K (.returned u) w') c ?_).mono fun e w' ⟨v, he, hj⟩ => by rw [he]; exact hj
  refine fun w G cx => ⟨cx.can 0 rfl (by simp), fun w' hw' => ⟨.blk b [.string (bs []), .bool st.2] 119 :: S, Φ, inferInstance, cx.put 0 hw' rfl, fun w G cx => ⟨cx.can 0 rfl (by simp), fun w' hw' => ⟨rd b ([], true) :: S, Φ, inferInstance, cx.put 0 hw' rfl, fun w G cx => hk w cx.left⟩⟩⟩⟩

theorem fail_to [Stable Φ] (c : Ctx W w (rd b st :: S ++ G) Φ) {K : List Own → PW → Prop} (hk : K (rd b ([], true) :: S) Φ) :
    Calls Tryz.prog F.wire_Reader_fail #[.pointer (some ⟨b, 0, none⟩)] w fun e w' => e = .returned (.tuple #[]) ∧ ∃ R' Φ', Stable Φ' ∧ Ctx W w' (R' ++ G) Φ' ∧ K R' Φ' :=
  fail_use (S := S ++ G) c fun w' c => ⟨rfl, rd b ([], true) :: S, Φ, inferInstance, c, hk⟩

theorem index_g (s : ByteArray) (c : Int) : Gives Tryz.prog F.strings_IndexByte #[.string s, .int .u8 c] (.int .i64 (Lib.indexByte s.data.toList c.toNat.toUInt8)) :=
  Quiet.gives ⟨fun w => Any.strings_IndexByte Tryz.lays137 s c w⟩

theorem atoi_to [Stable Φ] (h1 : ∀ M w, Φ M w → ErrAt 2 M w) (h2 : ∀ M w, Φ M w → ErrAt 3 M w) (s : ByteArray) (hs : s.size ≤ 1000000) (c : Ctx W w (R ++ G) Φ) {K1 : Int → List Own → PW → Prop} {K2 : Int → TypeId → Value → List Own → PW → Prop}
    (k1 : ∀ n, Lib.atoiAll s.data.toList = .ok n → K1 n R Φ) (k2 : ∀ n t v, (∀ m, Lib.atoiAll s.data.toList ≠ .ok m) → K2 n t v R Φ) :
    Calls Tryz.prog F.strconv_Atoi #[.string s] w fun e w' => (∃ n : Int, e = .returned (.tuple #[.int .i64 n, .nilIface]) ∧ ∃ R' Φ', Stable Φ' ∧ Ctx W w' (R' ++ G) Φ' ∧ K1 n R' Φ') ∨
      ∃ (n : Int) (t : TypeId) (v : Value), e = .returned (.tuple #[.int .i64 n, .iface t v]) ∧ ∃ R' Φ', Stable Φ' ∧ Ctx W w' (R' ++ G) Φ' ∧ K2 n t v R' Φ' := by
  obtain ⟨_, ev, hv, hev⟩ := h1 _ _ c.phi
  obtain ⟨_, er, hr, her⟩ := h2 _ _ c.phi
  cases h : Lib.atoiAll s.data.toList
  · rename_i n
    refine (Any.strconv_Atoi_ok Tryz.laysC172 s (by omega) n h w).mono fun e w' ⟨he, hw⟩ => .inl ⟨n, he, R, Φ, inferInstance, ?_, k1 n h⟩
    rcases hw with rfl | ⟨t, rfl⟩
    · exact c
    · exact c.call (chg_below (Lib.bytesWorld_below _ _ _))
  · exact (Any.strconv_Atoi_syntax Tryz.laysC172 s (by omega) h ev w hv hev).mono fun e w' ⟨N, he, _, _, hb⟩ => .inr ⟨_, _, _, he, R, Φ, inferInstance, c.call (chg_below hb), k2 _ _ _ fun m hm => by rw [h] at hm; cases hm⟩
  · exact (Any.strconv_Atoi_range Tryz.laysC172 s (by omega) h er w hr her).mono fun e w' ⟨N, he, _, _, hb⟩ => .inr ⟨_, _, _, he, R, Φ, inferInstance, c.call (chg_below hb), k2 _ _ _ fun m hm => by rw [h] at hm; cases hm⟩

theorem stepN_none {e : UInt8} {least : Int} (h : numP e least st.1 = none) : stepN e least st = (0, ([], true)) := by unfold stepN; rw [h]
theorem stepN_some {e : UInt8} {least n : Int} {r : List UInt8} (h : numP e least st.1 = some (n, r)) : stepN e least st = (n, (r, st.2)) := by unfold stepN; rw [h]

set_option maxHeartbeats 2000000 in
theorem number_use [Stable Φ] (hΦ : ∀ M w, Φ M w → NumI M w) (e : Int) (least : Int) (hl : st.1.length ≤ 1000000000) (c : Ctx W w (rd b st :: S) Φ) {K : Ending → World → Prop}
    (hk : ∀ w', Ctx W w' (rd b (stepN e.toNat.toUInt8 least st).2 :: S) Φ → K (.returned (.int .i64 (stepN e.toNat.toUInt8 least st).1)) w') :
    Calls Tryz.prog F.wire_Reader_number #[.pointer (some ⟨b, 0, none⟩), .int .u8 e, .int .i64 least] w K := by
  refine (Bwire_Reader_number_run b 0 e least (J := fun u w' => K (.returned u) w') c ?_).mono fun e w' ⟨v, he, hj⟩ => by rw [he]; exact hj
  clear c
  obtain ⟨l, bad⟩ := st
  simp only at hl
  have hsz : (bs l).size = l.length := bs_size l
  have hmin : (min ((bs l).size : Int) 21).toNat = min l.length 21 := by rw [hsz]; omega
  have hhead : (bs l).extract 0 (min ((bs l).size : Int) 21).toNat = bs (l.take 21) := by
    rw [hmin, bs_ext, List.drop_zero, Nat.sub_zero]
    congr 1
    rcases Nat.le_total l.length 21 with h | h
    · rw [Nat.min_eq_left h, List.take_of_length_le (Nat.le_refl _), List.take_of_length_le h]
    · rw [Nat.min_eq_right h]
  refine fun w G cx => ⟨bs l, cx.get 0 rfl rfl, bs l, cx.get 0 rfl rfl, by omega, fun w G cx => ?_⟩
  rw [hhead]
  refine (index_g (bs (l.take 21)) e).in.toI (R := rd b (l, bad) :: S) cx ?_
  rw [bs_list]
  obtain ⟨i, hi⟩ : ∃ i, Lib.indexByte (l.take 21) e.toNat.toUInt8 = i := ⟨_, rfl⟩
  obtain ⟨hge, hidx⟩ := index_neg (l.take 21) e.toNat.toUInt8
  rw [hi] at hge hidx ⊢
  have failK : numP e.toNat.toUInt8 least l = none → ∀ (w : World) (G : List Own), Ctx W w (rd b (l, bad) :: S ++ G) Φ → Calls Tryz.prog F.wire_Reader_fail #[.pointer (some ⟨b, 0, none⟩)] w fun e w' => e = .returned (.tuple #[]) ∧ ∃ R' Φ', Stable Φ' ∧ Ctx W w' (R' ++ G) Φ' ∧ ∀ w F1, Ctx W w (R' ++ F1) Φ' → K (.returned (.int .i64 0)) w := fun hn w G cx => by
    rw [stepN_none (st := (l, bad)) hn] at hk
    exact fail_to (S := S) cx fun w F1 cx => hk w cx.left
  refine Br.intro (fun hneg => fun w G cx => failK ?_ w G cx) (fun hpos => ?_)
  · unfold numP
    simp only [hi]
    rw [if_pos (of_decide_eq_true hneg)]
  have hpos := of_decide_eq_false hpos
  rcases hidx with hidx | ⟨_, hlt, _, _⟩
  · omega
  have hlt2 : i.toNat < (l.take 21).length := by omega
  have hll : (l.take 21).length ≤ l.length := by rw [List.length_take]; omega
  have h21 : (l.take 21).length ≤ 21 := by rw [List.length_take]; omega
  have hhd : (bs (l.take 21)).extract 0 i.toNat = bs (l.take i.toNat) := by
    rw [bs_ext, List.drop_zero, Nat.sub_zero, List.take_take, Nat.min_eq_left (by omega)]
  refine ⟨⟨by omega, by rw [bs_size]; omega⟩, fun w G cx => ?_⟩
  rw [hhd]
  refine atoi_to (R := rd b (l, bad) :: S) (fun M w h => (hΦ M w h).2.1) (fun M w h => (hΦ M w h).2.2) (bs (l.take i.toNat)) (by rw [bs_size, List.length_take]; omega) cx (fun n hn => ?_) (fun n t v hn => ?_)
  · rw [bs_list] at hn
    have hb := Lib.atoiAll_bounds hn
    refine ⟨rd b (l, bad) :: S, Φ, inferInstance, fun w G cx => cx, false, fun w => neq_nil (by decide +kernel) w, Br.intro (fun h => by cases h) (fun _ => ⟨⟨by omega, by rw [bs_size]; omega⟩, fun w G cx => ?_⟩)⟩
    refine (Itoa_in (fun M w h => (hΦ M w h).1) n (by unfold I64; omega)).toS cx ⟨fun w G cx => cx, Br.intro (fun hne => fun w G cx => failK ?_ w G cx) (fun heq => Br.intro (fun hls => fun w G cx => failK ?_ w G cx) (fun hls => fun w G cx => ?_))⟩
    · have hne := of_decide_eq_true hne
      unfold numP
      simp only [hi]
      rw [if_neg (by omega), hn]
      simp only
      rw [if_neg (fun h => hne (by show bs (Lib.itoa n) = _; rw [h.1]))]
    · unfold numP
      simp only [hi]
      rw [if_neg (by omega), hn]
      simp only
      rw [if_neg (fun h => by have := of_decide_eq_true hls; omega)]
    · have heq : Lib.itoa n = l.take i.toNat := bs_inj.1 (Decidable.not_not.1 (of_decide_eq_false heq))
      have hls := of_decide_eq_false hls
      have hnum : numP e.toNat.toUInt8 least l = some (n, l.drop (i.toNat + 1)) := by
        unfold numP
        simp only [hi]
        rw [if_neg (by omega), hn]
        simp only
        rw [if_pos ⟨heq, by omega⟩]
      rw [stepN_some (st := (l, bad)) hnum] at hk
      have hex : (bs l).extract (i + 1).toNat (bs l).size = bs (l.drop (i.toNat + 1)) := by
        rw [bs_ext, hsz, show (i + 1).toNat = i.toNat + 1 by omega]
        congr 1
        exact List.take_of_length_le (by rw [List.length_drop]; omega)
      refine ⟨bs l, cx.get 0 rfl rfl, ?_, ⟨by omega, by omega, Nat.le_refl _⟩, fun w G cx => ⟨cx.can 0 rfl (by simp), fun w' hw' => ?_⟩⟩
      · unfold I64
        omega
      rw [hex] at hw'
      exact ⟨rd b (l.drop (i.toNat + 1), bad) :: S, Φ, inferInstance, cx.put 0 hw' rfl, fun w G cx => hk w cx.left⟩
  · rw [bs_list] at hn
    refine ⟨[], fun _ _ => True, inferInstance, fun w G cx => (cx.weak fun _ _ _ => trivial).right, true, fun w => ?_, Br.intro (fun _ => fun w G cx => failK ?_ w G cx) (fun h => by cases h)⟩
    · exact neq_err (by decide +kernel) w
    · unfold numP
      simp only [hi]
      rw [if_neg (by omega)]

theorem number_to [Stable Φ] (hΦ : ∀ M w, Φ M w → NumI M w) (e : Int) (least : Int) (hl : st.1.length ≤ 1000000000) (c : Ctx W w (rd b st :: S ++ G) Φ) {K : Int → List Own → PW → Prop}
    (hk : K (stepN e.toNat.toUInt8 least st).1 (rd b (stepN e.toNat.toUInt8 least st).2 :: S) Φ) :
    Calls Tryz.prog F.wire_Reader_number #[.pointer (some ⟨b, 0, none⟩), .int .u8 e, .int .i64 least] w fun e w' => ∃ n, e = .returned (.int .i64 n) ∧ ∃ R' Φ', Stable Φ' ∧ Ctx W w' (R' ++ G) Φ' ∧ K n R' Φ' :=
  number_use (S := S ++ G) hΦ e least hl c fun w' c => ⟨_, rfl, _, Φ, inferInstance, c, hk⟩

def rdInt (st : RdS) : Int × RdS := stepN 59 (-9223372036854775808) st
def rdNat (st : RdS) : Int × RdS := stepN 59 0 st

theorem RInt_to [Stable Φ] (hΦ : ∀ M w, Φ M w → NumI M w) (hl : st.1.length ≤ 1000000000) (c : Ctx W w (rd b st :: S ++ G) Φ) {K : Int → List Own → PW → Prop}
    (hk : K (rdInt st).1 (rd b (rdInt st).2 :: S) Φ) :
    Calls Tryz.prog F.wire_Reader_Int #[.pointer (some ⟨b, 0, none⟩)] w fun e w' => ∃ n, e = .returned (.int .i64 n) ∧ ∃ R' Φ', Stable Φ' ∧ Ctx W w' (R' ++ G) Φ' ∧ K n R' Φ' := by
  refine (Bwire_Reader_Int_run b 0 (J := fun u w' => ∃ n, (Ending.returned u) = .returned (.int .i64 n) ∧ ∃ R' Φ', Stable Φ' ∧ Ctx W w' (R' ++ G) Φ' ∧ K n R' Φ') (R := rd b st :: (S ++ G)) c ?_).mono fun e w' ⟨v, he, hj⟩ => by rw [he]; exact hj
  exact fun w F1 cx => number_to (S := S ++ G) hΦ 59 _ hl cx fun w F1 cx => ⟨_, rfl, _, Φ, inferInstance, cx.left, hk⟩
theorem RNum_to [Stable Φ] (hΦ : ∀ M w, Φ M w → NumI M w) (hl : st.1.length ≤ 1000000000) (c : Ctx W w (rd b st :: S ++ G) Φ) {K : Int → List Own → PW → Prop}
    (hk : K (rdNat st).1 (rd b (rdNat st).2 :: S) Φ) :
    Calls Tryz.prog F.wire_Reader_Num #[.pointer (some ⟨b, 0, none⟩)] w fun e w' => ∃ n, e = .returned (.int .i64 n) ∧ ∃ R' Φ', Stable Φ' ∧ Ctx W w' (R' ++ G) Φ' ∧ K n R' Φ' := by
  refine (Bwire_Reader_Num_run b 0 (J := fun u w' => ∃ n, (Ending.returned u) = .returned (.int .i64 n) ∧ ∃ R' Φ', Stable Φ' ∧ Ctx W w' (R' ++ G) Φ' ∧ K n R' Φ') (R := rd b st :: (S ++ G)) c ?_).mono fun e w' ⟨v, he, hj⟩ => by rw [he]; exact hj
  exact fun w F1 cx => number_to (S := S ++ G) hΦ 59 _ hl cx fun w F1 cx => ⟨_, rfl, _, Φ, inferInstance, cx.left, hk⟩

theorem Left_to [Stable Φ] (c : Ctx W w (rd b st :: S ++ G) Φ) {K : Int → List Own → PW → Prop} (hk : K st.1.length (rd b st :: S) Φ) :
    Calls Tryz.prog F.wire_Reader_Left #[.pointer (some ⟨b, 0, none⟩)] w fun e w' => ∃ n, e = .returned (.int .i64 n) ∧ ∃ R' Φ', Stable Φ' ∧ Ctx W w' (R' ++ G) Φ' ∧ K n R' Φ' := by
  refine (Bwire_Reader_Left_run b 0 (J := fun u w' => ∃ n, (Ending.returned u) = .returned (.int .i64 n) ∧ ∃ R' Φ', Stable Φ' ∧ Ctx W w' (R' ++ G) Φ' ∧ K n R' Φ') (R := rd b st :: (S ++ G)) c ?_).mono fun e w' ⟨v, he, hj⟩ => by rw [he]; exact hj
  exact fun w F1 cx => ⟨bs st.1, cx.get 0 rfl rfl, fun w F1 cx => ⟨st.1.length, by rw [bs_size], _, Φ, inferInstance, cx.left, hk⟩⟩

def rdDone (st : RdS) : Bool := !st.2 && decide (st.1 = [])
theorem Done_to [Stable Φ] (c : Ctx W w (rd b st :: S ++ G) Φ) {K : Bool → List Own → PW → Prop} (hk : K (rdDone st) (rd b st :: S) Φ) :
    Calls Tryz.prog F.wire_Reader_Done #[.pointer (some ⟨b, 0, none⟩)] w fun e w' => ∃ n, e = .returned (.bool n) ∧ ∃ R' Φ', Stable Φ' ∧ Ctx W w' (R' ++ G) Φ' ∧ K n R' Φ' := by
  refine (Bwire_Reader_Done_run b 0 (J := fun u w' => ∃ n, (Ending.returned u) = .returned (.bool n) ∧ ∃ R' Φ', Stable Φ' ∧ Ctx W w' (R' ++ G) Φ' ∧ K n R' Φ') (R := rd b st :: (S ++ G)) c ?_).mono fun e w' ⟨v, he, hj⟩ => by rw [he]; exact hj
  refine fun w F1 cx => ⟨st.2, cx.get 0 rfl rfl, bs st.1, fun _ => cx.get 0 rfl rfl, fun w F1 cx => ⟨rdDone st, ?_, _, Φ, inferInstance, cx.left, hk⟩⟩
  have e : decide (bs st.1 = ByteArray.mk #[]) = decide (st.1 = []) := by
    rw [show ByteArray.mk #[] = bs [] from rfl]
    exact decide_eq_decide.2 bs_inj
  rw [e]
  rfl

theorem prefix_one (c : UInt8) (l : List UInt8) : Lib.hasPrefix l [c] = (match l with | [] => false | x :: _ => x == c) := by
  cases l with
  | nil => rfl
  | cons x r =>
    unfold Lib.hasPrefix
    rw [List.isPrefixOf_cons_cons]
    simp [Bool.beq_comm]

theorem close_to [Stable Φ] (e : UInt8) (c : Ctx W w (rd b st :: S ++ G) Φ) {K : List Own → PW → Prop} (hk : K (rd b (stepC e st) :: S) Φ) :
    Calls Tryz.prog F.wire_Reader_close #[.pointer (some ⟨b, 0, none⟩), .string (ByteArray.mk #[e])] w fun e w' => e = .returned (.tuple #[]) ∧ ∃ R' Φ', Stable Φ' ∧ Ctx W w' (R' ++ G) Φ' ∧ K R' Φ' := by
  refine (Bwire_Reader_close_run b 0 (ByteArray.mk #[e]) (J := fun u w' => (Ending.returned u) = .returned (.tuple #[]) ∧ ∃ R' Φ', Stable Φ' ∧ Ctx W w' (R' ++ G) Φ' ∧ K R' Φ') (R := rd b st :: (S ++ G)) c ?_).mono fun e w' ⟨v, he, hj⟩ => by rw [he]; exact hj
  clear c
  obtain ⟨l, bad⟩ := st
  refine fun w F1 cx => ⟨bs l, cx.get 0 rfl rfl, fun w F1 cx => ?_⟩
  refine (Any.strings_CutPrefix Tryz.lays103 (bs l) (ByteArray.mk #[e]) w).mono fun e2 w' ⟨he, hw⟩ => ?_
  subst hw
  refine ⟨_, _, he, rd b (l, bad) :: (S ++ G), Φ, inferInstance, cx, ?_⟩
  clear cx
  rw [bs_list, show (ByteArray.mk #[e]).data.toList = [e] from rfl]
  unfold Lib.trimPrefix
  rw [prefix_one]
  unfold stepC at hk
  cases l with
  | nil =>
    refine fun w F1 cx => ⟨cx.can 0 rfl (by simp), fun w' hw' => ⟨rd b ([], bad) :: (S ++ G), Φ, inferInstance, cx.put 0 hw' rfl, Br.intro (fun _ => fun w F1 cx => fail_to (S := S ++ G) cx fun w F1 cx => ⟨by first | trivial | rfl, _, Φ, inferInstance, cx.left, hk⟩) (fun h => by cases h)⟩⟩
  | cons x r =>
    simp only at hk ⊢
    by_cases hx : x = e
    · subst hx
      rw [if_pos rfl] at hk
      rw [if_pos (by simp)]
      refine fun w F1 cx => ⟨cx.can 0 rfl (by simp), fun w' hw' => ⟨rd b (r, bad) :: (S ++ G), Φ, inferInstance, cx.put 0 hw' rfl, Br.intro (fun h => by simp at h) (fun _ => fun w F1 cx => ⟨by first | trivial | rfl, _, Φ, inferInstance, cx.left, hk⟩)⟩⟩
    · rw [if_neg hx] at hk
      rw [if_neg (by simpa using hx)]
      refine fun w F1 cx => ⟨cx.can 0 rfl (by simp), fun w' hw' => ⟨rd b (x :: r, bad) :: (S ++ G), Φ, inferInstance, cx.put 0 hw' rfl, Br.intro (fun _ => fun w F1 cx => fail_to (S := S ++ G) cx fun w F1 cx => ⟨by first | trivial | rfl, _, Φ, inferInstance, cx.left, hk⟩) (fun h => by simp at h; exact absurd h hx)⟩⟩

theorem stepN_nonneg {e : UInt8} (he : e.toNat = 58 ∨ e.toNat = 59 ∨ e.toNat = 91) (st : RdS) : 0 ≤ (stepN e 0 st).1 ∧ (stepN e 0 st).1 ≤ 9223372036854775807 := by
  unfold stepN
  split
  · rename_i n r h
    obtain ⟨⟨h1, h2⟩, _⟩ := (numP_iff he).1 h
    unfold I64 at h1
    simp only; omega
  · simp only; omega
theorem stepN_len (e : UInt8) (least : Int) (st : RdS) : (stepN e least st).2.1.length ≤ st.1.length := by
  unfold stepN
  split
  · rename_i n r h
    unfold numP at h
    simp only at h
    split at h
    · cases h
    · split at h
      · split at h
        · cases h
          simp only [List.length_drop]; omega
        · cases h
      · cases h
  · simp

theorem Text_to [Stable Φ] (hΦ : ∀ M w, Φ M w → NumI M w) (hl : st.1.length ≤ 1000000000) (c : Ctx W w (rd b st :: S ++ G) Φ) {K : ByteArray → List Own → PW → Prop}
    (hk : K (stepT st).1 (rd b (stepT st).2 :: S) Φ) :
    Calls Tryz.prog F.wire_Reader_Text #[.pointer (some ⟨b, 0, none⟩)] w fun e w' => ∃ n, e = .returned (.string n) ∧ ∃ R' Φ', Stable Φ' ∧ Ctx W w' (R' ++ G) Φ' ∧ K n R' Φ' := by
  refine (Bwire_Reader_Text_run b 0 (J := fun u w' => ∃ n, (Ending.returned u) = .returned (.string n) ∧ ∃ R' Φ', Stable Φ' ∧ Ctx W w' (R' ++ G) Φ' ∧ K n R' Φ') (R := rd b st :: (S ++ G)) c ?_).mono fun e w' ⟨v, he, hj⟩ => by rw [he]; exact hj
  clear c
  refine fun w F1 cx => number_to (S := S ++ G) hΦ 58 0 hl cx ?_
  rw [show ((58 : Int).toNat.toUInt8) = (58 : UInt8) from rfl]
  unfold stepT at hk
  simp only at hk
  have hn := stepN_nonneg (e := 58) (.inl rfl) st
  obtain ⟨⟨n, l, bad⟩, ha⟩ : ∃ a, stepN 58 0 st = a := ⟨_, rfl⟩
  rw [ha] at hk hn ⊢
  simp only at hk hn ⊢
  refine fun w F1 cx => ⟨bs l, cx.get 0 rfl rfl, Br.intro (fun h => ?_) (fun h => ?_)⟩
  · have h := of_decide_eq_true h
    rw [bs_size] at h
    rw [if_pos h] at hk
    exact fun w F1 cx => fail_to (S := S ++ G) cx fun w F1 cx => ⟨_, rfl, _, Φ, inferInstance, cx.left, hk⟩
  · have h := of_decide_eq_false h
    rw [bs_size] at h
    rw [if_neg h] at hk
    have e1 : (bs l).extract n.toNat (bs l).size = bs (l.drop n.toNat) := by
      rw [bs_ext, bs_size]
      congr 1
      exact List.take_of_length_le (by rw [List.length_drop]; omega)
    have e2 : (bs l).extract 0 n.toNat = bs (l.take n.toNat) := by rw [bs_ext, List.drop_zero, Nat.sub_zero]
    refine fun w F1 cx => ⟨bs l, cx.get 0 rfl rfl, ⟨by omega, by rw [bs_size]; omega⟩, fun w F1 cx => ⟨bs l, cx.get 0 rfl rfl, ⟨by omega, by rw [bs_size]; omega, Nat.le_refl _⟩, fun w F1 cx => ⟨cx.can 0 rfl (by simp), fun w' hw' => ?_⟩⟩⟩
    rw [e1] at hw'
    refine ⟨rd b (l.drop n.toNat, bad) :: (S ++ G), Φ, inferInstance, cx.put 0 hw' rfl, fun w F1 cx => close_to (S := S ++ G) 44 cx fun w F1 cx => ⟨(stepC 44 (l.drop n.toNat, bad)).2, cx.get 0 rfl rfl, Br.intro (fun hb => ?_) (fun hb => ?_)⟩⟩
    · rw [hb] at hk
      exact fun w F1 cx => ⟨_, rfl, _, Φ, inferInstance, cx.left, hk⟩
    · rw [hb] at hk
      rw [e2]
      exact fun w F1 cx => ⟨_, rfl, _, Φ, inferInstance, cx.left, hk⟩

end
end Go.Proofs.YtbkpfhhhbhaecaaGreatDoor
end

/-
  Rows, read: in plain Lean, and walked.
-/
section
set_option linter.unusedVariables false
set_option linter.unusedSimpArgs false
namespace Go.Proofs.YtbkpfhhhbhaecaaGreatDoor
open Go.Vc


/-! ### in plain Lean -/
def stepV (st : RdS) : ValD × RdS := (⟨(rdInt st).1, (rdInt (rdInt st).2).1, (stepT (rdInt (rdInt st).2).2).1⟩, (stepT (rdInt (rdInt st).2).2).2)
def rowLoop : Nat → RdS → List ValD → Option (List ValD × RdS)
  | 0, st, acc => some (acc, st)
  | n + 1, st, acc => if st.1 = [] then none else rowLoop n (stepV st).2 (acc ++ [(stepV st).1])
def readRowP (l : List UInt8) : Option (List ValD) := match rowLoop (rdNat (l, false)).1.toNat (rdNat (l, false)).2 [] with
  | some (acc, st) => if rdDone st then some acc else none
  | none => none

theorem num_read {e : UInt8} (he : e.toNat = 58 ∨ e.toNat = 59 ∨ e.toNat = 91) {least n : Int} {r : List UInt8} {bad : Bool} (h : I64 n) (h2 : least ≤ n) : stepN e least (Lib.itoa n ++ e :: r, bad) = (n, (r, bad)) :=
  stepN_some (st := (Lib.itoa n ++ e :: r, bad)) ((numP_iff he).2 ⟨⟨h, h2⟩, rfl⟩)
theorem intB_list (n : Int) : (intB n).data.toList = Lib.itoa n ++ [59] := by
  unfold intB numB
  rw [ByteArray.data_append, Array.toList_append]
theorem int_read {n : Int} {r : List UInt8} {bad : Bool} (h : I64 n) : rdInt ((intB n).data.toList ++ r, bad) = (n, (r, bad)) := by
  rw [intB_list, List.append_assoc]
  exact num_read (.inr (.inl rfl)) h h.1
theorem nat_read {n : Nat} {r : List UInt8} {bad : Bool} (h : (n : Int) ≤ 9223372036854775807) : rdNat ((natB n).data.toList ++ r, bad) = ((n : Int), (r, bad)) := by
  unfold natB
  rw [if_neg (by omega), intB_list, List.append_assoc]
  exact num_read (.inr (.inl rfl)) (by unfold I64; omega) (by omega)
theorem textB_list (s : ByteArray) : (textB s).data.toList = Lib.itoa s.size ++ 58 :: (s.data.toList ++ [44]) := by
  unfold textB numB
  simp [ByteArray.data_append]
theorem text_read {s : ByteArray} {r : List UInt8} (h : s.size ≤ 9223372036854775807) : stepT ((textB s).data.toList ++ r, false) = (s, (r, false)) := by
  have e1 : stepN 58 0 ((textB s).data.toList ++ r, false) = ((s.size : Int), (s.data.toList ++ 44 :: r, false)) := by
    rw [textB_list, List.append_assoc, List.cons_append, List.append_assoc]
    exact num_read (.inl rfl) (by unfold I64; omega) (by omega)
  unfold stepT
  simp only [e1]
  have hl : s.data.toList.length = s.size := list_size s
  rw [if_neg (by rw [List.length_append, List.length_cons, hl]; omega), Int.toNat_natCast, List.drop_left' hl, List.take_left' hl]
  rfl
theorem val_read {v : ValD} {r : List UInt8} (h1 : I64 v.kind) (h2 : I64 v.num) (h3 : v.text.size ≤ 9223372036854775807) : stepV ((valB v).data.toList ++ r, false) = (v, (r, false)) := by
  have e : (valB v).data.toList ++ r = (intB v.kind).data.toList ++ ((intB v.num).data.toList ++ ((textB v.text).data.toList ++ r)) := by
    unfold valB
    simp [ByteArray.data_append]
  unfold stepV
  rw [e, int_read h1]
  simp only
  rw [int_read h2]
  simp only
  rw [text_read h3]
theorem valB_pos (v : ValD) (h : I64 v.kind) : (valB v).data.toList ≠ [] := fun e => by
  have h1 := intB_size h
  have h2 := congrArg List.length e
  rw [list_size] at h2
  unfold valB at h2
  rw [size_app, size_app, List.length_nil] at h2
  omega
def FitV (v : ValD) : Prop := (I64 v.kind ∧ I64 v.num) ∧ v.text.size ≤ 9223372036854775807
theorem vals_read : ∀ (r : List ValD) (acc : List ValD) (t : List UInt8), (∀ v ∈ r, FitV v) → rowLoop r.length (valsL r ++ t, false) acc = some (acc ++ r, (t, false))
  | [], acc, t, _ => by simp [rowLoop, valsL]
  | v :: r, acc, t, h => by
    obtain ⟨⟨h1, h2⟩, h3⟩ := h v (by simp)
    have e : valsL (v :: r) ++ t = (valB v).data.toList ++ (valsL r ++ t) := by simp [valsL]
    have hp := valB_pos v h1
    rw [e, List.length_cons, rowLoop, if_neg (by intro e; exact hp (List.append_eq_nil_iff.1 e).1), val_read h1 h2 h3]
    simp only
    rw [vals_read r _ t fun u hu => h u (by simp [hu]), List.append_assoc]
    rfl
theorem row_read {r : List ValD} (h : ∀ v ∈ r, FitV v) (hl : r.length ≤ 9223372036854775807) : readRowP (rowL r) = some r := by
  have h1 := vals_read r [] [] h
  rw [List.append_nil, List.nil_append] at h1
  unfold readRowP rowL
  rw [nat_read (by omega)]
  simp only [Int.toNat_natCast]
  rw [h1]
  rfl

/-! lengths -/
theorem stepC_len (c : UInt8) (st : RdS) : (stepC c st).1.length ≤ st.1.length := by
  unfold stepC
  split
  · simp
  · rename_i h
    split
    · rw [h]; simp
    · simp
theorem stepT_len (st : RdS) : (stepT st).2.1.length ≤ st.1.length ∧ (stepT st).1.size ≤ st.1.length := by
  have h1 := stepN_len 58 0 st
  have h2 := stepC_len 44 (((stepN 58 0 st).2.1.drop (stepN 58 0 st).1.toNat, (stepN 58 0 st).2.2))
  rw [List.length_drop] at h2
  unfold stepT
  simp only
  split
  · exact ⟨Nat.zero_le _, Nat.zero_le _⟩
  · refine ⟨by simp only; omega, ?_⟩
    simp only
    split
    · exact Nat.zero_le _
    · rw [bs_size, List.length_take]; omega
/-- a number's reading eats something, or all -/
theorem stepN_eats (e : UInt8) (least : Int) (st : RdS) (h : st.1 ≠ []) : (stepN e least st).2.1.length < st.1.length := by
  have hp := List.length_pos_iff.2 h
  unfold stepN
  split
  · rename_i n r h
    unfold numP at h
    simp only at h
    split at h
    · cases h
    · split at h
      · split at h
        · cases h
          simp only [List.length_drop]; omega
        · cases h
      · cases h
  · simpa using hp
theorem stepV_len (st : RdS) : (stepV st).2.1.length ≤ st.1.length ∧ (st.1 ≠ [] → (stepV st).2.1.length < st.1.length) ∧ (stepV st).1.text.size ≤ st.1.length := by
  have a := stepN_len 59 (-9223372036854775808) st
  have b := stepN_len 59 (-9223372036854775808) (rdInt st).2
  have c := stepT_len (rdInt (rdInt st).2).2
  have a' : (rdInt st).2.1.length ≤ st.1.length := a
  have b' : (rdInt (rdInt st).2).2.1.length ≤ (rdInt st).2.1.length := b
  unfold stepV
  refine ⟨by simp only; omega, fun h => ?_, by simp only; omega⟩
  have d : (rdInt st).2.1.length < st.1.length := stepN_eats 59 (-9223372036854775808) st h
  simp only; omega
theorem rdInt_i64 (st : RdS) : I64 (rdInt st).1 := by
  unfold rdInt stepN
  split
  · rename_i n r h
    exact ((numP_iff (.inr (.inl rfl))).1 h).1.1
  · unfold I64; simp
theorem rowLoop_fit {L : Nat} : ∀ (n : Nat) (st : RdS) (acc : List ValD) (out : List ValD) (st' : RdS), rowLoop n st acc = some (out, st') → acc.length + st.1.length ≤ L → (∀ v ∈ acc, v.text.size ≤ L) → out.length + st'.1.length ≤ L ∧ ∀ v ∈ out, v.text.size ≤ L
  | 0, st, acc, out, st', h, h1, h2 => by
    unfold rowLoop at h
    cases h
    exact ⟨h1, h2⟩
  | n + 1, st, acc, out, st', h, h1, h2 => by
    unfold rowLoop at h
    split at h
    · cases h
    · rename_i hne
      obtain ⟨a, b, c⟩ := stepV_len st
      have b := b hne
      refine rowLoop_fit n _ _ out st' h (by rw [List.length_append, List.length_singleton]; omega) fun v hv => ?_
      rcases List.mem_append.1 hv with hv | hv
      · exact h2 v hv
      · rw [List.mem_singleton.1 hv]; omega
theorem readRow_fit {l : List UInt8} {r : List ValD} (h : readRowP l = some r) : r.length ≤ l.length ∧ ∀ v ∈ r, v.text.size ≤ l.length := by
  unfold readRowP at h
  split at h
  · rename_i acc st hl
    split at h
    · cases h
      have hn : (rdNat (l, false)).2.1.length ≤ l.length := stepN_len 59 0 (l, false)
      have := rowLoop_fit (L := l.length) _ _ _ _ _ hl (by simp only [List.length_nil]; omega) (by simp)
      exact ⟨by omega, this.2⟩
    · cases h
  · cases h

/-! ### walked -/
section
variable {W w : World} {R G S : List Own} {Φ : PW} {b : Nat} {st : RdS}

theorem take_to [Stable Φ] (hΦ : ∀ M w, Φ M w → NumI M w) (hl : st.1.length ≤ 1000000000) (c : Ctx W w (rd b st :: S ++ G) Φ) {K : Int → Int → ByteArray → List Own → PW → Prop}
    (hk : K (stepV st).1.kind (stepV st).1.num (stepV st).1.text (rd b (stepV st).2 :: S) Φ) :
    Calls Tryz.prog F.value_take #[.pointer (some ⟨b, 0, none⟩)] w fun e w' => ∃ n m s, e = .returned (.agg #[.int .i64 n, .int .i64 m, .string s]) ∧ ∃ R' Φ', Stable Φ' ∧ Ctx W w' (R' ++ G) Φ' ∧ K n m s R' Φ' := by
  refine (Bvalue_take_run b 0 (J := fun u w' => ∃ n m s, (Ending.returned u) = .returned (.agg #[.int .i64 n, .int .i64 m, .string s]) ∧ ∃ R' Φ', Stable Φ' ∧ Ctx W w' (R' ++ G) Φ' ∧ K n m s R' Φ') (R := rd b st :: (S ++ G)) c ?_).mono fun e w' ⟨v, he, hj⟩ => by rw [he]; exact hj
  have a : (rdInt st).2.1.length ≤ st.1.length := stepN_len 59 (-9223372036854775808) st
  have b : (rdInt (rdInt st).2).2.1.length ≤ (rdInt st).2.1.length := stepN_len 59 (-9223372036854775808) (rdInt st).2
  exact fun _ w F1 cx => RInt_to (S := S ++ G) hΦ hl cx fun w F1 cx => RInt_to (S := S ++ G) hΦ (by omega) cx fun _ w F1 cx => Text_to (S := S ++ G) hΦ (by omega) cx fun w F1 cx => ⟨_, _, _, rfl, _, Φ, inferInstance, cx.left, hk⟩

theorem rep_of {M : List Nat} {w : World} {v : ValD} (h1 : I64 v.kind) (h2 : I64 v.num) (h3 : v.text.size ≤ maxLen) : Gv.rep M w [.int .i64 v.kind, .int .i64 v.num, .string v.text] v :=
  ⟨[.int .i64 v.kind], [.int .i64 v.num, .string v.text], rfl, ⟨rfl, h1⟩, [.int .i64 v.num], [.string v.text], rfl, ⟨rfl, h2⟩, rfl, h3⟩

set_option maxHeartbeats 1000000 in
theorem ReadRow_use [Stable Φ] (hΦ : ∀ M w, Φ M w → NumI M w) (l : List UInt8) (hl : l.length ≤ 10000000) (c : Ctx W w S Φ) {K : Ending → World → Prop}
    (h0 : readRowP l = none → ∀ w', Ctx W w' S Φ → K (.returned (.tuple #[.slice none 0 0, .bool false])) w')
    (h1 : ∀ r p cap w', readRowP l = some r → r.length ≤ cap → cap ≤ maxLen → Ctx W w' S (fun M w => Φ M w ∧ Sl M w p r) → K (.returned (.tuple #[.slice p r.length cap, .bool true])) w') :
    Calls Tryz.prog F.value_ReadRow #[.string (bs l)] w K := by
  refine (Bvalue_ReadRow_run (bs l) (J := fun u w' => K (.returned u) w') (R := S) c ?_).mono fun e w' ⟨v, he, hj⟩ => by rw [he]; exact hj
  clear c
  refine fun w G cx => Open_use l cx fun b w cx => ⟨_, rfl, rd b (l, false) :: S, Φ, inferInstance, cx, ?_⟩
  clear cx
  refine fun w G cx => RNum_to (S := S) hΦ (by simp only; omega) cx ?_
  clear cx
  have hlen : (rdNat (l, false)).2.1.length ≤ l.length := stepN_len 59 0 (l, false)
  have hnn := stepN_nonneg (e := 59) (.inr (.inl rfl)) (l, false)
  have hrow : readRowP l = match rowLoop (rdNat (l, false)).1.toNat (rdNat (l, false)).2 [] with
    | some (acc, st) => if rdDone st then some acc else none
    | none => none := rfl
  have hnn : 0 ≤ (rdNat (l, false)).1 ∧ (rdNat (l, false)).1 ≤ 9223372036854775807 := hnn
  obtain ⟨⟨n0, st0⟩, hst⟩ : ∃ x, rdNat (l, false) = x := ⟨_, rfl⟩
  rw [hst] at hlen hnn hrow ⊢
  simp only at hlen hnn hrow ⊢
  refine exI_mk (fun p n c m R' Φ' k => ∃ (st : RdS) (acc : List ValD) (ds : List Value), n = acc.length ∧ R' = .buf p n c ds 71 3 :: rd b st :: S ∧ Φ' = (fun M w => Φ M w ∧ Elems M w ds acc) ∧ k = m.toNat ∧ 0 ≤ m ∧ m ≤ 9223372036854775807 ∧ acc.length + st.1.length ≤ l.length ∧ rowLoop n0.toNat st0 [] = rowLoop m.toNat st acc)
    ⟨⟨.buf none 0 0 [] 71 3 :: rd b st0 :: S, fun M w => Φ M w ∧ Elems M w [] ([] : List ValD), _, inferInstance, fun w G cx => (cx.nobuf 71 3).weak fun M w h => ⟨h, Elems.nil⟩, st0, [], [], rfl, rfl, rfl, rfl, hnn.1, hnn.2, by simp only [List.length_nil]; omega, rfl⟩, ?_⟩
  rintro p n c m R1 Φ1 k _ ⟨st, acc, ds, rfl, rfl, rfl, rfl, hm0, hm1, hal, hrl⟩
  have hst1 : Stable (fun M w => Φ M w ∧ Elems M w ds acc) := inferInstance
  refine Br.intro (fun hpos => ?_) (fun hz => ?_)
  · have hpos := of_decide_eq_true hpos
    refine fun w G cx => Left_to (S := .buf p acc.length c ds 71 3 :: S) cx.swap ?_
    refine Br.intro (fun hz => fun w G cx => ?_) (fun hnz => ?_)
    · have hz := of_decide_eq_true hz
      refine h0 ?_ w (cx.left.drop1.drop1.weak fun M w h => h.1)
      rw [hrow, hrl, show m.toNat = (m.toNat - 1) + 1 by omega, rowLoop, if_pos (List.length_eq_zero_iff.1 (by omega))]
    · have hnz := of_decide_eq_false hnz
      have hne : st.1 ≠ [] := fun e => hnz (by rw [e]; rfl)
      obtain ⟨q1, q2, q3⟩ := stepV_len st
      have q2 := q2 hne
      have hi1 := rdInt_i64 st
      have hi2 := rdInt_i64 (rdInt st).2
      refine fun w G cx => take_to (S := .buf p acc.length c ds 71 3 :: S) (fun M w h => hΦ M w h.1) (by omega) cx ?_
      refine fun bk w G cx => ?_
      have cx1 : Ctx W w (.blk bk [.int .i64 (stepV st).1.kind, .int .i64 (stepV st).1.num, .string (stepV st).1.text] 71 :: .buf p acc.length c ds 71 3 :: (rd b (stepV st).2 :: S ++ G)) (fun M w => Φ M w ∧ Elems M w ds acc) := cx.perm ((List.Perm.swap _ _ _).cons _)
      obtain ⟨p', cap', w', hrun, _, cx'⟩ := Ctx.app1 (P := Tryz.prog) (ts := 23) (ty := 23) (kb := #[false, false]) (size := 3) (bytes := 32) cx1 (by kernel_rfl) (by omega) rfl rfl (by omega) (by omega)
      have hst2 : Stable (fun M w => Φ M w ∧ Elems M w (ds ++ [.int .i64 (stepV st).1.kind, .int .i64 (stepV st).1.num, .string (stepV st).1.text]) (acc ++ [(stepV st).1])) := inferInstance
      have hcx2 : Ctx W w' (.buf p' (acc ++ [(stepV st).1]).length cap' (ds ++ [.int .i64 (stepV st).1.kind, .int .i64 (stepV st).1.num, .string (stepV st).1.text]) 71 3 :: rd b (stepV st).2 :: S ++ G) (fun M w => Φ M w ∧ Elems M w (ds ++ [.int .i64 (stepV st).1.kind, .int .i64 (stepV st).1.num, .string (stepV st).1.text]) (acc ++ [(stepV st).1])) := by
        rw [List.length_append, List.length_singleton]
        exact cx'.weak fun M w h => ⟨h.1, h.2.snoc (rep_of hi1 hi2 (Nat.le_trans q3 (Nat.le_trans (by omega : st.1.length ≤ 10000000) (by decide))))⟩
      refine ⟨p', acc.length + 1, cap', w', hrun, _, _, hst2, hcx2, by unfold I64; omega, _, _, (m - 1).toNat, hst2, fun w G cx => cx, ⟨(stepV st).2, acc ++ [(stepV st).1], _, by simp, by simp, rfl, rfl, by omega, by omega, by rw [List.length_append, List.length_singleton]; omega, ?_⟩, by omega⟩
      rw [hrl, show m.toNat = (m - 1).toNat + 1 by omega, rowLoop, if_neg hne]
  · have hz := of_decide_eq_false hz
    have hm : m.toNat = 0 := by omega
    rw [hm, rowLoop] at hrl
    rw [hrl] at hrow
    simp only at hrow
    refine fun w G cx => Done_to (S := .buf p acc.length c ds 71 3 :: S) cx.swap ?_
    refine Br.intro (fun hd => fun w G cx => ?_) (fun hd => fun w G cx => ?_)
    · refine h0 ?_ w (cx.left.drop1.drop1.weak fun M w h => h.1)
      rw [hrow, if_neg (by simpa using hd)]
    · have cx := cx.left.drop1
      obtain ⟨cx3, hs, _, g1, g2⟩ := Ctx.freeze (α := ValD) cx.fst cx.phi.2
      exact h1 acc p c w (by rw [hrow, if_pos (by simpa using hd)]) g1 g2 (cx3.add hs)

theorem ReadRow_to [Stable Φ] (hΦ : ∀ M w, Φ M w → NumI M w) (l : List UInt8) (hl : l.length ≤ 10000000) (c : Ctx W w (R ++ G) Φ) {K : Option Addr → Nat → Nat → Bool → List Own → PW → Prop}
    (h0 : readRowP l = none → K none 0 0 false R Φ)
    (h1 : ∀ r p cap, readRowP l = some r → r.length ≤ cap → cap ≤ maxLen → Stable (fun M w => Φ M w ∧ Sl M w p r) → K p r.length cap true R (fun M w => Φ M w ∧ Sl M w p r)) :
    Calls Tryz.prog F.value_ReadRow #[.string (bs l)] w fun e w' => ∃ p n c ok, e = .returned (.tuple #[.slice p n c, .bool ok]) ∧ ∃ R' Φ', Stable Φ' ∧ Ctx W w' (R' ++ G) Φ' ∧ K p n c ok R' Φ' :=
  ReadRow_use hΦ l hl c (fun h w' c => ⟨none, 0, 0, false, rfl, R, Φ, inferInstance, c, h0 h⟩) fun r p cap w' h g1 g2 c => ⟨p, r.length, cap, true, rfl, R, _, inferInstance, c, h1 r p cap h g1 g2 inferInstance⟩
theorem ReadRowS_to [Stable Φ] (hΦ : ∀ M w, Φ M w → NumI M w) (s : ByteArray) (hl : s.size ≤ 10000000) (c : Ctx W w (R ++ G) Φ) {K : Option Addr → Nat → Nat → Bool → List Own → PW → Prop}
    (h0 : readRowP s.data.toList = none → K none 0 0 false R Φ)
    (h1 : ∀ r p cap, readRowP s.data.toList = some r → r.length ≤ cap → cap ≤ maxLen → Stable (fun M w => Φ M w ∧ Sl M w p r) → K p r.length cap true R (fun M w => Φ M w ∧ Sl M w p r)) :
    Calls Tryz.prog F.value_ReadRow #[.string s] w fun e w' => ∃ p n c ok, e = .returned (.tuple #[.slice p n c, .bool ok]) ∧ ∃ R' Φ', Stable Φ' ∧ Ctx W w' (R' ++ G) Φ' ∧ K p n c ok R' Φ' :=
  ReadRow_to hΦ s.data.toList (by rw [list_size]; exact hl) c h0 h1
end
end Go.Proofs.YtbkpfhhhbhaecaaGreatDoor
end

/-
  The encodings of rows tell rows apart (for seats with the readers of rows).
-/
section
set_option linter.unusedVariables false
set_option linter.unusedSimpArgs false
namespace Go.Proofs.YtbkpfhhhbhaecaaGreatDoor
open Go.Vc

theorem rowL_inj {r s : List ValD} (hr : ∀ v ∈ r, FitV v) (hs : ∀ v ∈ s, FitV v) (h1 : r.length ≤ 9223372036854775807) (h2 : s.length ≤ 9223372036854775807) (h : rowB r = rowB s) : r = s := by
  have e1 := row_read hr h1
  have e2 := row_read hs h2
  have h : rowL r = rowL s := by
    have := congrArg (fun x : ByteArray => x.data.toList) h
    exact this
  rw [h, e2] at e1
  exact (Option.some.inj e1).symm
end Go.Proofs.YtbkpfhhhbhaecaaGreatDoor
end

/-
  Batches that a ledger accepts, in plain Lean.
-/
section
set_option linter.unusedVariables false
set_option linter.unusedSimpArgs false
namespace Go.Proofs.YtbkpfhhhbhaecaaGreatDoor
open Go.Vc


abbrev LineD.key (x : LineD) : Key := x.d.key
structure AccB (st : LedD) (no mark : Int) (L : List LineD) : Prop where
  gno : (lastP st).no < no
  gmark : (lastP st).mark ≤ mark
  most : mark ≤ 1099511627776
  ok : okFrom no mark (lastP st).mark (st.lines.length + 1) none L = true
  right : ∀ x ∈ L, rightR x.row = true
  over : ∀ x ∈ L, overP st x = false

theorem check_ok {st : LedD} {no mark : Int} {L : List LineD} (h : checkP st no mark L = 0) : AccB st no mark L := by
  unfold checkP at h
  split at h
  · cases h
  · rename_i h1
    split at h
    · cases h
    · rename_i h2
      split at h
      · cases h
      · rename_i h3
        split at h
        · cases h
        · rename_i h4
          split at h
          · cases h
          · rename_i h5
            split at h
            · cases h
            · rename_i h6
              refine ⟨by omega, by omega, by omega, by simpa using h4, fun x hx => ?_, fun x hx => ?_⟩
              · have h5 : (L.any fun x => !rightR x.row) = false := by simpa using h5
                have := (List.any_eq_false.1 h5) x hx
                simpa using this
              · have h6 : L.any (overP st) = false := by simpa using h6
                have := (List.any_eq_false.1 h6) x hx
                simpa using this

theorem asc_key {x y : LineD} (h : ascP x y = true) : cmpK x.key y.key < 0 := by
  unfold ascP at h
  show lex cmpI cmpR (x.time, x.row) (y.time, y.row) < 0
  unfold lex cmpI
  simp only
  rw [Bool.or_eq_true, Bool.and_eq_true] at h
  rcases h with h | ⟨h1, h2⟩
  · have h := of_decide_eq_true h
    rw [if_pos h, if_pos (by decide)]; decide
  · have h1 := of_decide_eq_true h1
    have h2 := of_decide_eq_true h2
    rw [if_neg (show ¬ x.time < y.time by omega), if_neg (show ¬ y.time < x.time by omega)]
    simpa using h2
theorem okFrom_asc {no mark lm : Int} : ∀ {L : List LineD} {nx : Int} {p : LineD}, okFrom no mark lm nx (some p) L = true → (∀ y ∈ L, cmpK p.key y.key < 0) ∧ L.Pairwise fun x y => cmpK x.key y.key < 0
  | [], _, _, _ => ⟨by simp, List.Pairwise.nil⟩
  | x :: L, nx, p, h => by
    unfold okFrom at h
    rw [Bool.and_eq_true, Bool.and_eq_true] at h
    obtain ⟨⟨_, h2⟩, h3⟩ := h
    obtain ⟨g1, g2⟩ := okFrom_asc h3
    have h2 := asc_key h2
    refine ⟨fun y hy => ?_, List.pairwise_cons.2 ⟨g1, g2⟩⟩
    rcases List.mem_cons.1 hy with e | hy
    · rw [e]; exact h2
    · exact cmpK_cmp.trans _ _ _ h2 (g1 y hy)
theorem okFrom_pair {no mark lm nx : Int} : ∀ {L : List LineD}, okFrom no mark lm nx none L = true → L.Pairwise fun x y => cmpK x.key y.key < 0
  | [], _ => List.Pairwise.nil
  | x :: L, h => by
    unfold okFrom at h
    rw [Bool.and_eq_true, Bool.and_eq_true] at h
    obtain ⟨g1, g2⟩ := okFrom_asc h.2
    exact List.pairwise_cons.2 ⟨g1, g2⟩
theorem okFrom_each {no mark lm : Int} : ∀ {L : List LineD} {nx : Int} {pv : Option LineD}, okFrom no mark lm nx pv L = true → ∀ i (h : i < L.length), okLine (nx + i) no mark lm L[i] = true
  | [], _, _, _, i, h => by simp at h
  | x :: L, nx, pv, h, i, hi => by
    unfold okFrom at h
    rw [Bool.and_eq_true, Bool.and_eq_true] at h
    cases i with
    | zero => rw [Int.natCast_zero, Int.add_zero]; exact h.1.1
    | succ i =>
      have := okFrom_each h.2 i (by simpa using hi)
      rw [show nx + ((i + 1 : Nat) : Int) = nx + 1 + i by omega]
      exact this

structure LineOk (nx no mark lm : Int) (x : LineD) : Prop where
  gno : x.no = nx
  batch : x.batch = no
  t0 : 0 ≤ x.time
  t1 : x.time ≤ mark
  nz : x.n ≠ 0
  caused : causedP x lm = true
theorem okLine_out {nx no mark lm : Int} {x : LineD} (h : okLine nx no mark lm x = true) : LineOk nx no mark lm x := by
  unfold okLine at h
  simp only [Bool.and_eq_true, decide_eq_true_eq] at h
  obtain ⟨⟨⟨⟨⟨h1, h2⟩, h3⟩, h4⟩, h5⟩, h6⟩ := h
  exact ⟨h1, h2, h3, h4, h5, h6⟩
theorem AccB.at {st : LedD} {no mark : Int} {L : List LineD} (h : AccB st no mark L) (i : Nat) (hi : i < L.length) : LineOk (((st.lines.length : Int) + 1) + i) no mark (lastP st).mark L[i] := okLine_out (okFrom_each h.ok i hi)
theorem AccB.mem {st : LedD} {no mark : Int} {L : List LineD} (h : AccB st no mark L) {x : LineD} (hx : x ∈ L) : ∃ nx, LineOk nx no mark (lastP st).mark x := by
  obtain ⟨i, hi, rfl⟩ := List.getElem_of_mem hx
  exact ⟨_, h.at i hi⟩
theorem caused_cause {x : LineD} {m : Int} (h : causedP x m = true) : x.cause = 0 ∨ x.cause = 1 ∨ x.cause = 2 := by
  unfold causedP at h
  split at h
  · omega
  · split at h
    · omega
    · split at h
      · omega
      · cases h

/-! ### counts -/
def RowsFit (L : List LineD) : Prop := ∀ x ∈ L, ∀ v ∈ x.row, FitV v
theorem right_len {r : List ValD} (h : rightR r = true) : r.length ≤ 12 := by
  unfold rightR at h
  rw [Bool.and_eq_true] at h
  have := of_decide_eq_true h.1
  omega
theorem key_of_at {x y : LineD} (hx : ∀ v ∈ x.row, FitV v) (hy : ∀ v ∈ y.row, FitV v) (h1 : x.row.length ≤ 1000000) (h2 : y.row.length ≤ 1000000) (h : x.at = y.at) : x.key = y.key := by
  have e1 : x.time = y.time := congrArg Prod.fst h
  have e2 : rowB x.row = rowB y.row := congrArg Prod.snd h
  have e3 := rowL_inj hx hy (by omega) (by omega) e2
  show (x.time, x.row) = (y.time, y.row)
  rw [e1, e3]
theorem cnt_none {k : LKey} : ∀ {l : List LineD}, (∀ x ∈ l, x.at ≠ k) → cntL l k = 0
  | [], _ => rfl
  | x :: l, h => by
    unfold cntL
    rw [if_neg (h x (by simp)), cnt_none fun y hy => h y (by simp [hy])]; rfl
theorem cnt_one : ∀ {l : List LineD}, l.Pairwise (fun x y => x.at ≠ y.at) → ∀ i (h : i < l.length), cntL l l[i].at = l[i].n
  | [], _, i, h => by simp at h
  | x :: l, hp, i, h => by
    obtain ⟨h1, h2⟩ := List.pairwise_cons.1 hp
    unfold cntL
    cases i with
    | zero =>
      rw [List.getElem_cons_zero, if_pos rfl, cnt_none fun y hy => (h1 y hy).symm]; omega
    | succ i =>
      rw [List.getElem_cons_succ, if_neg (h1 _ (List.getElem_mem _)), cnt_one h2 i (by simpa using h)]; omega
theorem cnt_step {l : List LineD} {i : Nat} (h : i < l.length) (k : LKey) : cntL (l.take (i + 1)) k = cntL (l.take i) k + if l[i].at = k then l[i].n else 0 := by
  rw [List.take_succ_eq_append_getElem h, cntL_app]
  simp [cntL]
theorem caus_app (a b : List LineD) (k : Int) : caus (a ++ b) k = caus a k + caus b k := by unfold caus; rw [List.countP_append]; omega
theorem caus_step {l : List LineD} {i : Nat} (h : i < l.length) (k : Int) : caus (l.take (i + 1)) k = caus (l.take i) k + if l[i].cause = k then 1 else 0 := by
  rw [List.take_succ_eq_append_getElem h, caus_app]
  congr 1
  unfold caus
  rw [List.countP_cons, List.countP_nil]
  split <;> rename_i h2
  · rw [if_pos (by simpa using h2)]; rfl
  · rw [if_neg (by simpa using h2)]; rfl
theorem caus_bd (l : List LineD) (k : Int) : 0 ≤ caus l k ∧ caus l k ≤ l.length := by
  unfold caus
  have := List.countP_le_length (p := fun x : LineD => decide (x.cause = k)) (l := l)
  omega

theorem AccB.apart {st : LedD} {no mark : Int} {L : List LineD} (h : AccB st no mark L) (hf : RowsFit L) : L.Pairwise fun x y => x.at ≠ y.at := by
  have hp := okFrom_pair h.ok
  refine hp.imp_of_mem fun {x y} hx hy hlt e => ?_
  have hk := key_of_at (hf x hx) (hf y hy) (by have := right_len (h.right x hx); omega) (by have := right_len (h.right y hy); omega) e
  rw [hk, cmpK_cmp.refl] at hlt
  omega
theorem AccB.zero {st : LedD} {no mark : Int} {L : List LineD} (h : AccB st no mark L) (hf : RowsFit L) {i : Nat} (hi : i < L.length) : cntL (L.take i) L[i].at = 0 := by
  have hp := h.apart hf
  refine cnt_none fun x hx => ?_
  obtain ⟨j, hj, rfl⟩ := List.getElem_of_mem hx
  rw [List.length_take] at hj
  rw [List.getElem_take]
  exact List.pairwise_iff_getElem.1 hp j i (by omega) hi (by omega)
theorem AccB.room {st : LedD} {no mark : Int} {L : List LineD} (h : AccB st no mark L) {x : LineD} (hx : x ∈ L) : 0 ≤ cntL st.lines x.at + x.n ∧ cntL st.lines x.at + x.n ≤ 1152921504606846976 := by
  have := h.over x hx
  unfold overP at this
  rw [Bool.or_eq_false_iff] at this
  have h1 := of_decide_eq_false this.1
  have h2 := of_decide_eq_false this.2
  omega

/-- a ledger, one batch later -/
def appP (st : LedD) (no mark : Int) (L : List LineD) : LedD := ⟨st.lines ++ L, st.bats ++ [⟨no, mark, (st.lines ++ L).length⟩]⟩

theorem AccB.cnt {st : LedD} {no mark : Int} {L : List LineD} (h : AccB st no mark L) (hf : RowsFit L) (hc : CntOk st) : CntOk (appP st no mark L) := fun k => by
  show 0 ≤ cntL (st.lines ++ L) k ∧ cntL (st.lines ++ L) k ≤ _
  rw [cntL_app]
  by_cases hk : ∃ x ∈ L, x.at = k
  · obtain ⟨x, hx, rfl⟩ := hk
    have h1 := h.room hx
    obtain ⟨i, hi, rfl⟩ := List.getElem_of_mem hx
    rw [cnt_one (h.apart hf) i hi]
    exact h1
  · rw [cnt_none fun x hx e => hk ⟨x, hx, e⟩, Int.add_zero]
    exact hc k
end Go.Proofs.YtbkpfhhhbhaecaaGreatDoor
end

/-
  Append, walked; a new ledger.
-/
section
set_option linter.unusedVariables false
set_option linter.unusedSimpArgs false
namespace Go.Proofs.YtbkpfhhhbhaecaaGreatDoor
open Go.Vc


/-- the map's value at a key, while nobody writes the map -/
def MapV (mb : Nat) (k : LKey) (n : Int) : PW := fun M w => mb ∉ M ∧ ∃ es clk, w.heap[mb]? = some (mObj es clk) ∧ getM es k = n
instance instStableMapV (mb : Nat) (k : LKey) (n : Int) : Stable (MapV mb k n) := ⟨fun {M M' w w'} hs h => by
  obtain ⟨h1, es, clk, h2, h3⟩ := h
  have hlt : mb < w.heap.size := (Array.getElem?_eq_some_iff.1 h2).1
  refine ⟨fun hm => ?_, es, clk, (hs.chg.block mb hlt h1).trans h2, h3⟩
  rcases hs.sub mb hm with h | h
  · exact h1 h
  · omega⟩

section
variable {Φ : PW} {q : LP} {st : LedD} {W w : World} {R S G : List Own} {p : Option Addr} {cap : Nat} {L : List LineD} {cs : List Value}

abbrev LedXB (q : LP) (st : LedD) (c0 c1 c2 : Int) : List Value := [.slice q.lp st.lines.length q.lc, .slice q.bp st.bats.length q.bc, .map (some q.mb), .int .i64 c0, .int .i64 c1, .int .i64 c2]
abbrev LedX (q : LP) (st : LedD) (c0 c1 c2 : Int) (es : List MEnt) (clk : Nat) : List Own := [.blk q.lb (LedXB q st c0 c1 c2) 79, .buf q.lp st.lines.length q.lc q.cs 51 7, .buf q.bp st.bats.length q.bc (batCells st.bats) 86 3, .obj q.mb (mObj es clk)]

theorem ledx_map {c0 c1 c2 : Int} {es : List MEnt} {clk : Nat} (cx : Ctx W w ((LedX q st c0 c1 c2 es clk ++ R) ++ G) Φ) : w.heap[q.mb]? = some (mObj es clk) := cx.own (.obj q.mb (mObj es clk)) (by simp)
theorem ledx_put [Stable Φ] {c0 c1 c2 : Int} {es : List MEnt} {clk : Nat} (cx : Ctx W w ((LedX q st c0 c1 c2 es clk ++ R) ++ G) Φ) (es1 : List MEnt) (clk1 : Nat) : Ctx W (setB w q.mb (mObj es1 clk1)) ((LedX q st c0 c1 c2 es1 clk1 ++ R) ++ G) Φ := cx.putObj 3 (mObj es1 clk1) rfl
/-- the block and the map's value at a key -/
theorem ledx_val [Stable Φ] {c0 c1 c2 : Int} {es : List MEnt} {clk : Nat} (cx : Ctx W w ((LedX q st c0 c1 c2 es clk ++ R) ++ G) Φ) {k : LKey} {n : Int} (hn : getM es k = n) : Ctx W w ([.blk q.lb (LedXB q st c0 c1 c2) 79] ++ G) (MapV q.mb k n) := by
  have c1 : Ctx W w ([.blk q.lb (LedXB q st c0 c1 c2) 79, .obj q.mb (mObj es clk)] ++ G) Φ := cx.sub (by
    refine List.Sublist.append ?_ (List.Sublist.refl G)
    show List.Sublist _ (_ :: _ :: _ :: _ :: R)
    exact .cons_cons _ (.cons _ (.cons _ (.cons_cons _ (List.nil_sublist _)))))
  have c2 := (Ctx.swap c1).park
  exact c2.weak fun M w h => ⟨(h.2.2 q.mb (by simp [Own.dom])).1, es, clk, h.2.1, hn⟩
theorem ledx_blk [Stable Φ] {c0 c1 c2 : Int} {es : List MEnt} {clk : Nat} (cx : Ctx W w ((LedX q st c0 c1 c2 es clk ++ R) ++ G) Φ) : Ctx W w ([.blk q.lb (LedXB q st c0 c1 c2) 79] ++ G) (fun _ _ => True) := by
  have c1 : Ctx W w ([.blk q.lb (LedXB q st c0 c1 c2) 79] ++ G) Φ := cx.sub (by
    refine List.Sublist.append ?_ (List.Sublist.refl G)
    show List.Sublist _ (_ :: _ :: _ :: _ :: R)
    exact .cons_cons _ (List.nil_sublist _))
  exact c1.weak fun _ _ _ => trivial

/-- one of the three counters goes up -/
def CausTail (lb : Nat) (n30 : Int) (W : World) (R83 : List Own) (Φ84 : PW) (K : List Own → PW → Prop) : Prop :=
  ∃ (R85 : List Own) (Φ86 : PW), Stable Φ86 ∧ (∀ (w : World) (F : List Own), Ctx W w (R83 ++ F) Φ84 → Ctx W w (R85 ++ F) Φ86) ∧ (0 ≤ n30 ∧ n30 < 3) ∧ ∃ n89 : Int,
    (∀ (w : World) (F : List Own), Ctx W w (R85 ++ F) Φ86 → ∃ n92 : Int, w.cell? ⟨lb, 0 + 3 + n30.toNat, none⟩ = some (.int .i64 n92) ∧ Value.int .i64 n92 = .int .i64 n89) ∧ I64 (n89 + 1) ∧ (0 ≤ n30 ∧ n30 < 3) ∧
    ∀ (w : World) (F : List Own), Ctx W w (R83 ++ F) Φ84 → CanWrite w lb (0 + 3 + n30.toNat) 1 ∧ ∀ w95 : World, w95 = w.setCell ⟨lb, 0 + 3 + n30.toNat, none⟩ (.int .i64 (n89 + 1)) → ∃ (R96 : List Own) (Φ97 : PW), Stable Φ97 ∧ Ctx W w95 (R96 ++ F) Φ97 ∧ K R96 Φ97

theorem caus_tail [Stable Φ] {c0 c1 c2 n30 : Int} {es : List MEnt} {clk : Nat} (hc : n30 = 0 ∨ n30 = 1 ∨ n30 = 2) (h0 : 0 ≤ c0 ∧ c0 < 1000000000) (h1 : 0 ≤ c1 ∧ c1 < 1000000000) (h2 : 0 ≤ c2 ∧ c2 < 1000000000) {K : List Own → PW → Prop}
    (hk : K (LedX q st (c0 + if n30 = 0 then 1 else 0) (c1 + if n30 = 1 then 1 else 0) (c2 + if n30 = 2 then 1 else 0) es clk ++ R) Φ) : CausTail q.lb n30 W (LedX q st c0 c1 c2 es clk ++ R) Φ K := by
  rcases hc with rfl | rfl | rfl
  · refine ⟨_, Φ, inferInstance, fun w F c => c, by omega, c0, fun w F c => ⟨c0, c.get 0 rfl rfl, rfl⟩, by unfold I64; omega, by omega, fun w F c => ⟨c.can 0 rfl (by show 3 + 1 ≤ 6; decide), fun w2 e => ⟨LedX q st (c0 + 1) (c1) (c2) es clk ++ R, Φ, inferInstance, c.put 0 e rfl, ?_⟩⟩⟩
    simpa using hk
  · refine ⟨_, Φ, inferInstance, fun w F c => c, by omega, c1, fun w F c => ⟨c1, c.get 0 rfl rfl, rfl⟩, by unfold I64; omega, by omega, fun w F c => ⟨c.can 0 rfl (by show 4 + 1 ≤ 6; decide), fun w2 e => ⟨LedX q st (c0) (c1 + 1) (c2) es clk ++ R, Φ, inferInstance, c.put 0 e rfl, ?_⟩⟩⟩
    simpa using hk
  · refine ⟨_, Φ, inferInstance, fun w F c => c, by omega, c2, fun w F c => ⟨c2, c.get 0 rfl rfl, rfl⟩, by unfold I64; omega, by omega, fun w F c => ⟨c.can 0 rfl (by show 5 + 1 ≤ 6; decide), fun w2 e => ⟨LedX q st (c0) (c1) (c2 + 1) es clk ++ R, Φ, inferInstance, c.put 0 e rfl, ?_⟩⟩⟩
    simpa using hk

theorem bat_app (l : List BatD) (x : BatD) : batCells (l ++ [x]) = batCells l ++ x.cells := by simp [batCells]

set_option maxHeartbeats 4000000 in
theorem Append_use [Stable Φ] {no mark : Int} [hT : Has Φ TabI] [hF : Has Φ (LF q st)] (hq : LedQ q st) (hs : LedS st) (hk : CntOk st) (src : Src [] Φ p L cs) (hlen : L.length ≤ 150000) (hrow : ∀ x ∈ L, x.row.length ≤ 1000000)
    (c : Ctx W w ((LedO q st ++ R) ++ G) Φ) {K : Int → List Own → PW → Prop}
    (h0 : checkP st no mark L ≠ 0 → K (checkP st no mark L) (LedO q st ++ R) Φ)
    (h1 : ∀ q', checkP st no mark L = 0 → RowsFit L → q'.lb = q.lb → LedQ q' (appP st no mark L) → Stable (fun M w => Φ M w ∧ LF q' (appP st no mark L) M w) → K 0 (LedO q' (appP st no mark L) ++ R) (fun M w => Φ M w ∧ LF q' (appP st no mark L) M w)) :
    Calls Tryz.prog F.ledger_Ledger_Append #[led q, .int .i64 no, .int .i64 mark, .slice p L.length cap] w fun e w' => ∃ n, e = .returned (.int .i64 n) ∧ ∃ R' Φ', Stable Φ' ∧ Ctx W w' (R' ++ G) Φ' ∧ K n R' Φ' := by
  have hsl := hs.lines
  have hc : Rows7 cs L := rows7 (src.el _ _ c.phi)
  have hfit : RowsFit L := fun x hx v hv => by
    obtain ⟨i, hi, rfl⟩ := List.getElem_of_mem hx
    obtain ⟨r, rc, he, _⟩ := hc i hi
    obtain ⟨g1, g2⟩ := sl_i64 (src_sl src hi he c.phi) v hv
    exact ⟨g1, Nat.le_trans g2 (by decide)⟩
  refine (Bledger_Ledger_Append_run q.lb 0 no mark p L.length cap (R := (LedO q st ++ R) ++ G) (J := fun v w' => ∃ n, v = .int .i64 n ∧ ∃ R' Φ', Stable Φ' ∧ Ctx W w' (R' ++ G) Φ' ∧ K n R' Φ') c ?_).mono fun e w' ⟨v, he, n, hv, rest⟩ => ⟨n, by rw [he, hv], rest⟩
  clear c
  refine fun w G2 cx => (Check_q hq hs hk src (by omega) hrow).toI (R := R ++ G) (cx.re (by simp)) ?_
  clear cx
  refine Br.intro (fun h => fun w G2 cx => ⟨_, rfl, _, Φ, inferInstance, (cx.left.re (by simp)), h0 (of_decide_eq_true h)⟩) (fun h => ?_)
  have hz : checkP st no mark L = 0 := Decidable.not_not.1 (of_decide_eq_false h)
  have ac := check_ok hz
  have hap := ac.apart hfit
  have b0 := caus_bd st.lines 0
  have b1 := caus_bd st.lines 1
  have b2 := caus_bd st.lines 2
  refine exI_mk (fun iI R' Φ' k => ∃ (i : Nat) (es : List MEnt) (clk : Nat), iI = i ∧ i ≤ L.length ∧ MapOk es clk ∧ (∀ k, getM es k = cntL st.lines k + cntL (L.take i) k) ∧ R' = LedX q st (caus st.lines 0 + caus (L.take i) 0) (caus st.lines 1 + caus (L.take i) 1) (caus st.lines 2 + caus (L.take i) 2) es clk ++ (R ++ G) ∧ Φ' = Φ ∧ k = L.length - i)
    ⟨⟨LedO q st ++ (R ++ G), Φ, _, inferInstance, fun w G cx => cx, 0, q.es, q.clk, rfl, Nat.zero_le _, hq.map, fun k => by rw [hq.cnt k]; simp [cntL], by simp [caus], rfl, rfl⟩, ?_⟩
  rintro iI R1 Φ1 k _ ⟨i, es, clk, rfl, hi, hmo, hcnt, rfl, rfl, rfl⟩
  have a0 := caus_bd (L.take i) 0
  have a1 := caus_bd (L.take i) 1
  have a2 := caus_bd (L.take i) 2
  rw [List.length_take] at a0 a1 a2
  refine Br.intro (fun hlt => ?_) (fun hge => ?_)
  · have hlt : i < L.length := by have := of_decide_eq_true hlt; omega
    obtain ⟨b, o, hp⟩ := src.ptr (by omega)
    obtain ⟨r, rc, he, g1, g2, g3⟩ := hc i hlt
    have hhi : Has Φ1 (fun M w => Sl M w r L[i].row) := ⟨fun M w h => src_sl src hlt he h⟩
    have hzero := ac.zero hfit hlt
    have hroom := ac.room (List.getElem_mem hlt)
    have hkb := hk L[i].at
    obtain ⟨_, lok⟩ := ac.mem (List.getElem_mem hlt)
    have hca := caused_cause lok.caused
    have hg := hcnt L[i].at
    rw [hzero, Int.add_zero] at hg
    obtain ⟨n0, hn0⟩ : ∃ n0, cntL st.lines L[i].at = n0 := ⟨_, rfl⟩
    rw [hn0] at hg hroom hkb
    obtain ⟨d0, hd0⟩ : ∃ d, caus st.lines 0 + caus (L.take i) 0 = d := ⟨_, rfl⟩
    obtain ⟨d1, hd1⟩ : ∃ d, caus st.lines 1 + caus (L.take i) 1 = d := ⟨_, rfl⟩
    obtain ⟨d2, hd2⟩ : ∃ d, caus st.lines 2 + caus (L.take i) 2 = d := ⟨_, rfl⟩
    rw [hd0, hd1, hd2]
    refine ⟨by omega, ptrK_intro b o hp fun w G2 cx => ⟨L[i].no, L[i].batch, L[i].time, r, L[i].row.length, rc, L[i].n, L[i].cause, L[i].why, by rw [Int.toNat_natCast]; exact src_at (S := []) src hp cx he, fun _ w G2 cx => ?_⟩⟩
    refine at_use L[i] r rc (hrow _ (List.getElem_mem _)) (right_text (ac.right _ (List.getElem_mem _))) cx ?_
    clear cx
    -- what is left, once the map has its entry
    have tail : ∀ (es' : List MEnt) (clk' : Nat), MapOk es' clk' → (∀ k, getM es' k = cntL st.lines k + cntL (L.take (i + 1)) k) → ∀ K : List Own → PW → Prop,
        K (LedX q st (caus st.lines 0 + caus (L.take (i + 1)) 0) (caus st.lines 1 + caus (L.take (i + 1)) 1) (caus st.lines 2 + caus (L.take (i + 1)) 2) es' clk' ++ (R ++ G)) Φ1 → CausTail q.lb L[i].cause W (LedX q st d0 d1 d2 es' clk' ++ (R ++ G)) Φ1 K := fun es' clk' _ _ K hK => by
      refine caus_tail hca (by omega) (by omega) (by omega) ?_
      rw [caus_step hlt, caus_step hlt, caus_step hlt, ← Int.add_assoc, ← Int.add_assoc, ← Int.add_assoc, hd0, hd1, hd2] at hK
      exact hK
    have step : ∀ y : LKey, cntL st.lines y + cntL (L.take (i + 1)) y = if y = L[i].at then n0 + L[i].n else getM es y := fun y => by
      rw [cnt_step hlt, hcnt y]
      by_cases hy : y = L[i].at
      · rw [if_pos hy, hy, hzero, if_pos rfl, hn0]; omega
      · rw [if_neg hy, if_neg (fun e => hy e.symm)]; omega
    refine fun _ => ⟨[.blk q.lb (LedXB q st d0 d1 d2) 79], MapV q.mb L[i].at n0, inferInstance, fun w G2 cx => ledx_val cx hg, some q.mb, fun w G2 cx => ⟨some q.mb, cx.get 0 rfl rfl, rfl⟩, n0, fun w G2 cx => ?_, by unfold I64; omega, fun w G2 cx => ?_⟩
    · obtain ⟨_, es3, clk3, h4, h5⟩ := cx.phi
      exact ⟨n0, fun w2 hw2 => by rw [← h5]; exact run_lookupM keyTy (by rw [hw2]; exact h4) L[i].at, rfl⟩
    obtain ⟨es1, clk1, s, hrun, ok1, hg1, hx1⟩ := run_entryM keyTy hmo (ledx_map cx) L[i].at
    refine ⟨getM es L[i].at, (s : Int), _, hrun, LedX q st d0 d1 d2 es1 clk1 ++ (R ++ G), Φ1, inferInstance, ledx_put cx es1 clk1, fun w G2 cx => ledx_val cx (by rw [hg1]; exact hg), fun w G2 cx => ?_⟩
    obtain ⟨es2, hrun2, ok2, hg2⟩ := run_storeM 75 ok1 hx1 (ledx_map cx) (n0 + L[i].n)
    have hg2' : ∀ y, getM es2 y = cntL st.lines y + cntL (L.take (i + 1)) y := fun y => by rw [hg2 y, step y, hg1]
    have hval : getM es2 L[i].at = n0 + L[i].n := by rw [hg2, if_pos rfl]
    refine ⟨_, hrun2, LedX q st d0 d1 d2 es2 clk1 ++ (R ++ G), Φ1, inferInstance, ledx_put cx es2 clk1, fun w G2 cx => ⟨some q.mb, cx.get 0 rfl rfl, getM es2 L[i].at, fun w2 hw2 => run_lookupM keyTy (by rw [hw2]; exact ledx_map cx) L[i].at, ?_⟩⟩
    clear cx
    rw [hval]
    refine Br.intro (fun h4 => ⟨LedX q st d0 d1 d2 es2 clk1 ++ (R ++ G), Φ1, inferInstance, fun w G2 cx => cx, some q.mb, fun w G2 cx => ⟨some q.mb, cx.get 0 rfl rfl, rfl⟩, fun w G2 cx => ?_⟩) (fun h4 => ?_)
    · have h4 := of_decide_eq_true h4
      obtain ⟨es3, hrun3, ok3, hg3⟩ := run_deleteM keyTy ok2 (ledx_map cx) L[i].at 82 0 #[false, false]
      have hg3' : ∀ y, getM es3 y = cntL st.lines y + cntL (L.take (i + 1)) y := fun y => by
        rw [hg3 y, ← hg2' y, hg2 y]
        by_cases hy : y = L[i].at
        · rw [if_pos hy, if_pos hy]; omega
        · rw [if_neg hy]
      exact ⟨_, hrun3, LedX q st d0 d1 d2 es3 clk1 ++ (R ++ G), Φ1, inferInstance, ledx_put cx es3 clk1, tail es3 clk1 ok3 hg3' _ ⟨by unfold I64; omega, _, Φ1, L.length - (i + 1), inferInstance, fun w G cx => cx, ⟨i + 1, es3, clk1, rfl, hlt, ok3, hg3', rfl, rfl, rfl⟩, by omega⟩⟩
    · exact tail es2 clk1 ok2 hg2' _ ⟨by unfold I64; omega, _, Φ1, L.length - (i + 1), inferInstance, fun w G cx => cx, ⟨i + 1, es2, clk1, rfl, hlt, ok2, hg2', rfl, rfl, rfl⟩, by omega⟩
  have hge : i = L.length := by have := of_decide_eq_false hge; omega
  subst hge
  rw [List.take_length] at hcnt ⊢
  clear a0 a1 a2
  rw [← caus_app, ← caus_app, ← caus_app]
  refine ⟨[.blk q.lb (LedXB q st (caus (st.lines ++ L) 0) (caus (st.lines ++ L) 1) (caus (st.lines ++ L) 2)) 79], (fun _ _ => True), inferInstance, fun w G2 cx => ledx_blk cx, q.lp, st.lines.length, q.lc, fun w G2 cx => ⟨_, _, _, cx.get 0 rfl rfl, rfl⟩, fun w G2 cx => ?_⟩
  refine (Cloned_new (S := (LedX q st (caus (st.lines ++ L) 0) (caus (st.lines ++ L) 1) (caus (st.lines ++ L) 2) es clk ++ (R ++ G)) ++ G2) (Φ := Φ1) (src.app (S := []) (R := (LedX q st (caus (st.lines ++ L) 0) (caus (st.lines ++ L) 1) (caus (st.lines ++ L) 2) es clk ++ (R ++ G)) ++ G2)) (by omega) hrow cx).mono fun e w' ⟨p1, c1, cs1, he, cx⟩ => ?_
  obtain ⟨cx1, hsl1, _, e1, e2⟩ := Ctx.freeze (α := LineD) cx cx.phi.2
  refine ⟨p1, L.length, c1, he, LedX q st (caus (st.lines ++ L) 0) (caus (st.lines ++ L) 1) (caus (st.lines ++ L) 2) es clk ++ (R ++ G), (fun M w => Φ1 M w ∧ Sl M w p1 L), inferInstance, (cx1.add hsl1).weak fun M w h => ⟨h.1.1, h.2⟩, fun w G2 cx => ledx_blk cx, fun w G2 cx => ?_⟩
  obtain ⟨p2, c2, w2, news, hrun, cx3⟩ := Ctx.appAny (P := Tryz.prog) (ts := 31) (ty := 31) (kb := #[false, false]) (bytes := 72) (c2 := c1) (l := L) (q := p1) (Ctx.swap cx) (by kernel_rfl) line_one (fun M w h => h.2) (by omega) (by omega)
  have cx4 := Ctx.swap cx3
  have hel : st.lines.length + L.length = (st.lines ++ L).length := by rw [List.length_append]
  rw [hel] at hrun cx4
  obtain ⟨C0, hC0⟩ : ∃ C0, caus (st.lines ++ L) 0 = C0 := ⟨_, rfl⟩
  obtain ⟨C1, hC1⟩ : ∃ C1, caus (st.lines ++ L) 1 = C1 := ⟨_, rfl⟩
  obtain ⟨C2, hC2⟩ : ∃ C2, caus (st.lines ++ L) 2 = C2 := ⟨_, rfl⟩
  rw [hC0, hC1, hC2] at cx4 ⊢
  -- the lines have moved; the block tells so next
  refine ⟨p2, (st.lines ++ L).length, c2, w2, hrun, .blk q.lb (LedXB q st C0 C1 C2) 79 :: .buf p2 (st.lines ++ L).length c2 (q.cs ++ news) 51 7 :: .buf q.bp st.bats.length q.bc (batCells st.bats) 86 3 :: .obj q.mb (mObj es clk) :: (R ++ G), (fun M w => Φ1 M w ∧ Elems M w (q.cs ++ news) (st.lines ++ L)), inferInstance, cx4.weak fun M w h => ⟨h.1.1, (hF.go M w h.1.1).append h.2⟩, fun w G2 cx => ?_, fun w G2 cx => ⟨cx.can 0 rfl (by show 0 + 1 ≤ 6; decide), fun w4 hw4 => ?_⟩⟩
  · have cy : Ctx W w ([.blk q.lb (LedXB q st C0 C1 C2) 79] ++ G2) (fun M w => Φ1 M w ∧ Elems M w (q.cs ++ news) (st.lines ++ L)) := cx.sub (List.Sublist.append (show List.Sublist _ (_ :: _ :: _ :: _ :: (R ++ G)) from .cons_cons _ (List.nil_sublist _)) (List.Sublist.refl G2))
    exact cy.weak fun _ _ _ => trivial
  have cx5 := cx.put 0 hw4 rfl
  -- the ledger without the batch
  obtain ⟨q1, hq1⟩ : ∃ q1 : LP, q1 = ⟨q.lb, p2, c2, q.cs ++ news, q.bp, q.bc, q.mb, es, clk⟩ := ⟨_, rfl⟩
  have cx6 : Ctx W w4 ((LedX q1 ⟨st.lines ++ L, st.bats⟩ C0 C1 C2 es clk ++ (R ++ G)) ++ G2) (fun M w => Φ1 M w ∧ Elems M w (q.cs ++ news) (st.lines ++ L)) := by rw [hq1]; exact cx5
  have hlb : q.lb = q1.lb := by rw [hq1]
  have hbp : q.bp = q1.bp := by rw [hq1]
  have hbc : q.bc = q1.bc := by rw [hq1]
  refine ⟨LedX q1 ⟨st.lines ++ L, st.bats⟩ C0 C1 C2 es clk ++ (R ++ G), (fun M w => Φ1 M w ∧ Elems M w (q.cs ++ news) (st.lines ++ L)), inferInstance, cx6, ?_⟩
  clear cx6 cx5 cx4 cx3 cx
  rw [hlb]
  refine ⟨[.blk q1.lb (LedXB q1 ⟨st.lines ++ L, st.bats⟩ C0 C1 C2) 79], (fun _ _ => True), inferInstance, fun w G2 cx => ledx_blk cx, q1.bp, st.bats.length, q1.bc, fun w G2 cx => ⟨_, _, _, cx.get 0 rfl rfl, rfl⟩, q1.lp, (st.lines ++ L).length, q1.lc, fun w G2 cx => ⟨_, _, _, cx.get 0 rfl rfl, rfl⟩, fun kb => ⟨fun w G2 cx => ledx_blk (Ctx.drop1 cx), fun w G2 cx => ?_⟩⟩
  have hlen2 := hs.bats
  have cy : Ctx W w (.blk kb [.int .i64 no, .int .i64 mark, .int .i64 ((st.lines ++ L).length : Nat)] 86 :: .buf q1.bp st.bats.length q1.bc (batCells st.bats) 86 3 :: .blk q1.lb (LedXB q1 ⟨st.lines ++ L, st.bats⟩ C0 C1 C2) 79 :: .buf q1.lp (st.lines ++ L).length q1.lc q1.cs 51 7 :: .obj q1.mb (mObj es clk) :: ((R ++ G) ++ G2)) (fun M w => Φ1 M w ∧ Elems M w (q.cs ++ news) (st.lines ++ L)) := cx.perm (List.Perm.cons _ (List.perm_middle (l₁ := [_, _]) (a := _)))
  obtain ⟨p4, c4, w5, hrun5, _, cz⟩ := Ctx.app1 (P := Tryz.prog) (ts := 76) (ty := 76) (kb := #[false, false]) (size := 3) (bytes := 24) cy (by kernel_rfl) (by omega) rfl rfl (by omega) (by omega)
  have hbl : st.bats.length + 1 = (st.bats ++ [(⟨no, mark, (st.lines ++ L).length⟩ : BatD)]).length := by simp
  rw [hbl] at hrun5 cz
  obtain ⟨q2, hq2⟩ : ∃ q2 : LP, q2 = ⟨q1.lb, q1.lp, q1.lc, q1.cs, p4, c4, q1.mb, es, clk⟩ := ⟨_, rfl⟩
  refine ⟨p4, (st.bats ++ [(⟨no, mark, (st.lines ++ L).length⟩ : BatD)]).length, c4, w5, hrun5, .blk q1.lb (LedXB q1 ⟨st.lines ++ L, st.bats⟩ C0 C1 C2) 79 :: .buf q1.lp (st.lines ++ L).length q1.lc q1.cs 51 7 :: .buf p4 (st.bats ++ [(⟨no, mark, (st.lines ++ L).length⟩ : BatD)]).length c4 (batCells (st.bats ++ [⟨no, mark, (st.lines ++ L).length⟩])) 86 3 :: .obj q1.mb (mObj es clk) :: (R ++ G), (fun M w => Φ1 M w ∧ Elems M w (q.cs ++ news) (st.lines ++ L)), inferInstance, ?_, fun w G2 cx => ?_, fun w G2 cx => ⟨cx.can 0 rfl (by show 1 + 1 ≤ 6; decide), fun w6 hw6 => ?_⟩⟩
  · rw [bat_app]
    exact cz.perm (List.perm_middle (l₁ := [_, _]) (a := _)).symm
  · have cy : Ctx W w ([.blk q1.lb (LedXB q1 ⟨st.lines ++ L, st.bats⟩ C0 C1 C2) 79] ++ G2) (fun M w => Φ1 M w ∧ Elems M w (q.cs ++ news) (st.lines ++ L)) := cx.sub (List.Sublist.append (show List.Sublist _ (_ :: _ :: _ :: _ :: (R ++ G)) from .cons_cons _ (List.nil_sublist _)) (List.Sublist.refl G2))
    exact cy.weak fun _ _ _ => trivial
  have cw := cx.put 0 hw6 rfl
  have cw2 : Ctx W w6 ((LedO q2 (appP st no mark L) ++ R) ++ (G ++ G2)) (fun M w => Φ1 M w ∧ LF q2 (appP st no mark L) M w) := by
    rw [hq2]
    unfold appP
    simp only [LedO, LedB, LF, hC0, hC1, hC2]
    rw [hq1] at cw ⊢
    exact cw.re (by simp)
  have hel2 := cw2.phi.2
  have hlq : LedQ q2 (appP st no mark L) := {
    map := by rw [hq2]; exact hmo
    cnt := fun k => by rw [hq2]; show getM es k = cntL (st.lines ++ L) k; rw [cntL_app]; exact hcnt k
    lpt := fun h => by
      obtain ⟨g, hg, _⟩ := cw2.bufCell 1 rfl (by rw [elems_len7 hel2]; omega)
      exact ⟨g, hg⟩
    bpt := fun h => by
      obtain ⟨g, hg, _⟩ := cw2.bufCell 2 rfl (by
        have := (cw2.bufLen 2 rfl).1
        rw [this]; omega)
      exact ⟨g, hg⟩
    lcap := (cw2.bufLen 1 rfl).2
    cells := fun i hi => rows7 hel2 i hi
    len := elems_len7 hel2 }
  exact ⟨LedO q2 (appP st no mark L) ++ (R ++ G), _, inferInstance, cw2.re (by simp), fun w G3 cx => ⟨0, rfl, LedO q2 (appP st no mark L) ++ R, _, inferInstance, (cx.left).re (by simp), h1 q2 hz hfit (by rw [hq2, hq1]) hlq inferInstance⟩⟩
end
end Go.Proofs.YtbkpfhhhbhaecaaGreatDoor
end

/-
  The encoding of a ledger, walked.
-/
section
set_option linter.unusedVariables false
set_option linter.unusedSimpArgs false
namespace Go.Proofs.YtbkpfhhhbhaecaaGreatDoor
open Go.Vc


/-! ### plain -/
def lineB (x : LineD) : ByteArray := intB x.time ++ textB (rowB x.row) ++ intB x.n ++ intB x.cause ++ intB x.why
def linesL (l : List LineD) : List UInt8 := l.flatMap fun x => (lineB x).data.toList
def batB (b : BatD) (s : Nat) : ByteArray := intB b.no ++ intB b.mark ++ natB ((b.stop - s : Nat) : Int)
def begP (l : List BatD) (i : Nat) : Nat := if i = 0 then 0 else (l[i - 1]?.map BatD.stop).getD 0
def segL (st : LedD) (i : Nat) : List UInt8 := match st.bats[i]? with
  | some b => (batB b (begP st.bats i)).data.toList ++ linesL ((st.lines.drop (begP st.bats i)).take (b.stop - begP st.bats i))
  | none => []
def segsL (st : LedD) (n : Nat) : List UInt8 := (List.range n).flatMap (segL st)
def ledL (st : LedD) : List UInt8 := (natB (st.bats.length : Int)).data.toList ++ segsL st st.bats.length
def BatsOk (st : LedD) : Prop := (∀ i (h : i < st.bats.length), begP st.bats i ≤ st.bats[i].stop) ∧ ∀ b ∈ st.bats, I64 b.no ∧ I64 b.mark

theorem linesL_app (a b : List LineD) : linesL (a ++ b) = linesL a ++ linesL b := by simp [linesL]
theorem linesL_one (x : LineD) : linesL [x] = (lineB x).data.toList := by simp [linesL]
theorem segsL_step (st : LedD) (n : Nat) : segsL st (n + 1) = segsL st n ++ segL st n := by simp [segsL, List.range_succ]
theorem begP_succ {l : List BatD} {i : Nat} (h : i < l.length) : begP l (i + 1) = l[i].stop := by
  unfold begP
  rw [if_neg (by omega), Nat.add_sub_cancel, List.getElem?_eq_getElem h]; rfl
/-- lines that can be written -/
structure LineW (x : LineD) : Prop where
  inn : x.In
  val : ∀ v ∈ x.row, (I64 v.kind ∧ I64 v.num) ∧ v.text.size ≤ 300
  row : x.row.length ≤ 13
theorem rowB_small {r : List ValD} (h1 : r.length ≤ 13) (h2 : ∀ v ∈ r, (I64 v.kind ∧ I64 v.num) ∧ v.text.size ≤ 300) : (rowB r).size ≤ 4753 := by
  have hL := rowL_len h2 (by decide) (by omega)
  have : r.length * (300 + 64) ≤ 13 * 364 := Nat.mul_le_mul h1 (Nat.le_refl _)
  unfold rowB
  rw [size_list]; omega
theorem lineB_size {x : LineD} (h : LineW x) : (lineB x).size ≤ 5000 := by
  have h1 := intB_size h.inn.time
  have h2 := intB_size h.inn.n
  have h3 := intB_size h.inn.cause
  have h4 := intB_size h.inn.why
  have h5 := rowB_small h.row h.val
  have h6 := textB_size (s := rowB x.row) (by omega)
  unfold lineB
  rw [size_app, size_app, size_app, size_app]; omega
theorem linesL_len : ∀ {l : List LineD}, (∀ x ∈ l, LineW x) → (linesL l).length ≤ l.length * 5000
  | [], _ => by simp [linesL]
  | x :: l, h => by
    have ih := linesL_len (l := l) fun y hy => h y (by simp [hy])
    have hx := lineB_size (h x (by simp))
    show ((lineB x).data.toList ++ linesL l).length ≤ _
    rw [List.length_append, list_size, List.length_cons, Nat.add_mul]; omega
theorem batB_size {b : BatD} (h1 : I64 b.no) (h2 : I64 b.mark) {s : Nat} (h3 : b.stop ≤ 1000000) : (batB b s).size ≤ 63 := by
  have g1 := intB_size h1
  have g2 := intB_size h2
  have g3 := natB_size (n := ((b.stop - s : Nat) : Int)) (by unfold I64; omega)
  unfold batB
  rw [size_app, size_app]; omega
/-- how long what is written gets: 5000 for each line, 63 for each batch -/
theorem segs_len {st : LedD} (hw : ∀ x ∈ st.lines, LineW x) (hb : BatsOk st) (hs : LedS st) : ∀ i, i ≤ st.bats.length → (segsL st i).length ≤ i * 63 + begP st.bats i * 5000
  | 0, _ => by simp [segsL, begP]
  | i + 1, hi => by
    have ih := segs_len hw hb hs i (by omega)
    have hlt : i < st.bats.length := by omega
    have h1 := hb.1 i hlt
    have h2 := hb.2 st.bats[i] (List.getElem_mem _)
    have h3 := hs.stop st.bats[i] (List.getElem_mem _)
    have h4 := hs.lines
    have g1 := batB_size h2.1 h2.2 (s := begP st.bats i) (by omega)
    have g2 := linesL_len (l := (st.lines.drop (begP st.bats i)).take (st.bats[i].stop - begP st.bats i)) fun x hx => hw x (List.mem_of_mem_drop (List.mem_of_mem_take hx))
    rw [segsL_step, begP_succ hlt, List.length_append]
    unfold segL
    rw [List.getElem?_eq_getElem hlt]
    simp only
    rw [List.length_append, list_size]
    have g3 : ((st.lines.drop (begP st.bats i)).take (st.bats[i].stop - begP st.bats i)).length = st.bats[i].stop - begP st.bats i := by
      rw [List.length_take, List.length_drop]; omega
    rw [g3] at g2
    have : begP st.bats i * 5000 + (st.bats[i].stop - begP st.bats i) * 5000 = st.bats[i].stop * 5000 := by rw [← Nat.add_mul]; congr 1; omega
    omega

section
variable {Φ : PW} {q : LP} {st : LedD} {W w : World} {R S G : List Own}

theorem lines_w (hq : LedQ q st) (hs : LedS st) {M : List Nat} (h : Elems M w q.cs st.lines) : ∀ x ∈ st.lines, LineW x := fun x hx => by
  have hr := hs.row x hx
  have ht := hs.text x hx
  obtain ⟨i, hi, rfl⟩ := List.getElem_of_mem hx
  obtain ⟨p, c, he, _, _, h3⟩ := hq.cells i hi
  exact ⟨h3, fun v hv => ⟨(sl_i64 (led_row h hi he) v hv).1, ht v hv⟩, hr⟩

set_option maxHeartbeats 4000000 in
theorem Bytes_q [Stable Φ] [hT : Has Φ TabI] [hF : Has Φ (LF q st)] (hq : LedQ q st) (hs : LedS st) (hb : BatsOk st) : GivesQ (LedO q st) Φ Tryz.prog F.ledger_Ledger_Bytes #[led q] (.string ⟨(ledL st).toArray⟩) := by
  have hsl := hs.lines
  have hsb := hs.bats
  refine gives_q (Bledger_Ledger_Bytes_run q.lb 0) fun W R => fun b w G cx => ?_
  have hw := lines_w hq hs (hF.go _ _ cx.phi)
  have hlen := segs_len hw hb hs
  have cell1 : ∀ {Q : List Own} {w : World} {G : List Own}, Ctx W w ((Q ++ (LedO q st ++ R)) ++ G) Φ → w.cell? ⟨q.lb, 0 + 1, none⟩ = some (.slice q.bp st.bats.length q.bc) := fun cx => led_cell (i := 1) (Ctx.dropF cx) rfl
  have cell0 : ∀ {Q : List Own} {w : World} {G : List Own}, Ctx W w ((Q ++ (LedO q st ++ R)) ++ G) Φ → w.cell? ⟨q.lb, 0, none⟩ = some (.slice q.lp st.lines.length q.lc) := fun cx => led_cell (i := 0) (Ctx.dropF cx) rfl
  have hnat := natB_size (n := (st.bats.length : Int)) (by unfold I64; omega)
  refine ⟨_, _, _, led_cell (i := 1) (Ctx.drop1 cx) rfl, fun w G cx => (Num_in (.inl ⟨hT.go, by unfold I64; omega⟩)).toS cx fun w G cx => ?_⟩
  refine WriteString_use (natB (st.bats.length : Int)) Bd.nil (Bd.fresh cx) (by simp only [List.length_nil]; omega) fun R1 w hB cx => ⟨_, _, rfl, R1 ++ (LedO q st ++ R), Φ, inferInstance, by rw [List.append_assoc]; exact cx, ?_⟩
  rw [List.nil_append] at hB
  clear cx
  refine fun w G cx => ⟨_, _, _, cell1 cx, ?_⟩
  clear cx
  refine exI_mk (fun sI iI R' Φ' k => ∃ (i : Nat) (Q : List Own), iI = i ∧ i ≤ st.bats.length ∧ sI = (begP st.bats i : Nat) ∧ BdT b ((natB (st.bats.length : Int)).data.toList ++ segsL st i) Q ∧ R' = Q ++ (LedO q st ++ R) ∧ Φ' = Φ ∧ k = st.bats.length - i) ⟨⟨_, _, _, inferInstance, fun w G cx => cx, 0, R1, rfl, Nat.zero_le _, rfl, by rw [show segsL st 0 = [] from rfl, List.append_nil]; exact hB, rfl, rfl, rfl⟩, ?_⟩
  clear hB
  rintro sI iI R2 Φ2 k _ ⟨i, Q, rfl, hi, rfl, hQ, rfl, rfl, rfl⟩
  refine Br.intro (fun hlt => ?_) (fun hge => fun w G cx => ?_)
  · have hlt : i < st.bats.length := by have := of_decide_eq_true hlt; omega
    obtain ⟨g, hg⟩ := hq.bpt (by omega)
    have hbe := hb.1 i hlt
    obtain ⟨hn1, hn2⟩ := hb.2 st.bats[i] (List.getElem_mem _)
    have hst := hs.stop st.bats[i] (List.getElem_mem _)
    have hli := hlen i hi
    have g1 := intB_size hn1
    have g2 := intB_size hn2
    have hbs := begP_succ hlt
    obtain ⟨s, hss⟩ : ∃ s, begP st.bats i = s := ⟨_, rfl⟩
    have hseg : segL st i = (batB st.bats[i] s).data.toList ++ linesL ((st.lines.drop s).take (st.bats[i].stop - s)) := by
      unfold segL
      rw [List.getElem?_eq_getElem hlt, ← hss]
    have hsz := batB_size hn1 hn2 (s := s) (by omega)
    rw [hss] at hbe hli ⊢
    obtain ⟨e, hee⟩ : ∃ e, st.bats[i].stop = e := ⟨_, rfl⟩
    have g3 := natB_size (n := ((e - s : Nat) : Int)) (by unfold I64; omega)
    refine ⟨by omega, ptrK_intro g 0 hg fun w G cx => ⟨st.bats[i].no, st.bats[i].mark, (st.bats[i].stop : Int), by rw [Int.toNat_natCast]; exact led_bat (Ctx.dropF cx) hg hlt, fun _ => ⟨Q ++ (LedO q st ++ R), Φ2, inferInstance, fun w G cx => cx, by unfold I64; omega, fun w G cx => ?_⟩⟩⟩
    rw [hee] at hbe hst hseg hbs ⊢
    rw [show ((e : Nat) : Int) - ((s : Nat) : Int) = ((e - s : Nat) : Int) by omega]
    refine (Int_in (.inl ⟨hT.go, hn1⟩)).toS cx ⟨fun w G cx => cx, fun w G cx => (Int_in (.inl ⟨hT.go, hn2⟩)).toS cx ⟨fun w G cx => cx, by show (intB st.bats[i].no).size + (intB st.bats[i].mark).size ≤ _; omega, fun w G cx => (Num_in (.inl ⟨hT.go, by unfold I64; omega⟩)).toS cx ⟨fun w G cx => cx, by show (intB st.bats[i].no ++ intB st.bats[i].mark).size + (natB ((e - s : Nat) : Int)).size ≤ _; rw [size_app]; omega, fun w G cx => ?_⟩⟩⟩
    have hbB : batB st.bats[i] s = intB st.bats[i].no ++ intB st.bats[i].mark ++ natB ((e - s : Nat) : Int) := by unfold batB; rw [hee]
    rw [← hbB]
    have hbud : i * 63 + s * 5000 ≤ 600000 * 63 + 150000 * 5000 := Nat.add_le_add (Nat.mul_le_mul_right _ (by omega)) (Nat.mul_le_mul_right _ (by omega))
    refine WriteString_use (batB st.bats[i] s) hQ (cx.re (List.append_assoc _ _ _)) (by rw [List.length_append, list_size]; omega) fun Q2 w hQ2 cx => ⟨_, _, rfl, Q2 ++ (LedO q st ++ R), Φ2, inferInstance, by rw [List.append_assoc]; exact cx, ?_⟩
    clear cx
    have hlc := hq.lcap.1
    refine fun w G cx => ⟨_, _, _, cell0 cx, ⟨by omega, by omega, by omega⟩, ?_⟩
    have hsrc := src_led (Φ := Φ2) hq hF.go s (e - s) (by omega)
    have hcel := rows7 (hsrc.el _ _ cx.phi)
    clear cx
    rw [Int.toNat_natCast, Int.toNat_natCast]
    obtain ⟨L, hL⟩ : ∃ L, (st.lines.drop s).take (e - s) = L := ⟨_, rfl⟩
    have hLn : L.length = e - s := by rw [← hL, List.length_take, List.length_drop]; omega
    have hLw : ∀ x ∈ L, LineW x := fun x hx => hw x (by rw [← hL] at hx; exact List.mem_of_mem_drop (List.mem_of_mem_take hx))
    rw [hL] at hsrc hcel hseg
    obtain ⟨pre, hpre⟩ : ∃ pre, (natB (st.bats.length : Int)).data.toList ++ segsL st i ++ (batB st.bats[i] s).data.toList = pre := ⟨_, rfl⟩
    have hprel : pre.length ≤ 1000000000 := by rw [← hpre, List.length_append, List.length_append, list_size, list_size]; omega
    rw [hpre] at hQ2
    refine exI_mk (fun jI R' Φ' k => ∃ (j : Nat) (Q : List Own), jI = j ∧ j ≤ L.length ∧ BdT b (pre ++ linesL (L.take j)) Q ∧ R' = Q ++ (LedO q st ++ R) ∧ Φ' = Φ2 ∧ k = L.length - j) ⟨⟨_, _, _, inferInstance, fun w G cx => cx, 0, Q2, rfl, Nat.zero_le _, by rw [List.take_zero, show linesL [] = [] from rfl, List.append_nil]; exact hQ2, rfl, rfl, rfl⟩, ?_⟩
    clear hQ2
    rintro jI R3 Φ3 k3 _ ⟨j, Q3, rfl, hj, hQ3, rfl, rfl, rfl⟩
    refine Br.intro (fun hlt2 => ?_) (fun hge2 => ⟨by unfold I64; omega, _, Φ3, st.bats.length - (i + 1), inferInstance, fun w G cx => cx, ⟨i + 1, Q3, by omega, hlt, by rw [hbs], ?_, rfl, rfl, rfl⟩, by omega⟩)
    · have hlt2 : j < L.length := by have := of_decide_eq_true hlt2; omega
      obtain ⟨bb, oo, hp⟩ := hsrc.ptr (by omega)
      obtain ⟨r, rc, he, k1, k2, k3⟩ := hcel j hlt2
      have hlw := hLw L[j] (List.getElem_mem _)
      have hrs := rowB_small hlw.row hlw.val
      have s1 := intB_size hlw.inn.time
      have s2 := intB_size hlw.inn.n
      have s3 := intB_size hlw.inn.cause
      have s4 := intB_size hlw.inn.why
      have s5 := textB_size (s := rowB L[j].row) (by omega)
      have hlB := lineB_size hlw
      have hpl := linesL_len (l := L.take j) fun x hx => hLw x (List.mem_of_mem_take hx)
      rw [List.length_take] at hpl
      have hpl2 : min j L.length * 5000 ≤ 150000 * 5000 := Nat.mul_le_mul_right _ (by omega)
      have hstep : linesL (L.take (j + 1)) = linesL (L.take j) ++ (lineB L[j]).data.toList := by rw [List.take_succ_eq_append_getElem hlt2, linesL_app, linesL_one]
      refine ⟨by omega, ptrK_intro bb oo hp fun w G cx => ⟨L[j].no, L[j].batch, L[j].time, r, L[j].row.length, rc, L[j].n, L[j].cause, L[j].why, by rw [Int.toNat_natCast]; exact src_at (S := LedO q st) (G := R ++ G) hsrc hp ((Ctx.dropF cx).re (List.append_assoc _ _ _)) he, fun _ => ⟨Q3 ++ (LedO q st ++ R), Φ3, inferInstance, fun w G cx => cx, fun w G cx => ?_⟩⟩⟩
      refine (Int_in (.inl ⟨hT.go, hlw.inn.time⟩)).toS cx ⟨fun w G cx => cx, fun w G cx => (RowBytes_in r rc L[j].row hT.go (fun M w h => src_sl hsrc hlt2 he h) (by have := hlw.row; omega) (fun v hv => by have := (hlw.val v hv).2; omega)).toS cx ⟨fun w G cx => cx, fun w G cx => (Text_in (.inl ⟨hT.go, by unfold I64; omega⟩) (by omega)).toS cx ⟨fun w G cx => cx, by show (intB L[j].time).size + (textB (rowB L[j].row)).size ≤ _; omega, fun w G cx => (Int_in (.inl ⟨hT.go, hlw.inn.n⟩)).toS cx ⟨fun w G cx => cx, by show (intB L[j].time ++ textB (rowB L[j].row)).size + (intB L[j].n).size ≤ _; rw [size_app]; omega, fun w G cx => (Int_in (.inl ⟨hT.go, hlw.inn.cause⟩)).toS cx ⟨fun w G cx => cx, by show (intB L[j].time ++ textB (rowB L[j].row) ++ intB L[j].n).size + (intB L[j].cause).size ≤ _; rw [size_app, size_app]; omega, fun w G cx => (Int_in (.inl ⟨hT.go, hlw.inn.why⟩)).toS cx ⟨fun w G cx => cx, by show (intB L[j].time ++ textB (rowB L[j].row) ++ intB L[j].n ++ intB L[j].cause).size + (intB L[j].why).size ≤ _; rw [size_app, size_app, size_app]; omega, fun w G cx => ?_⟩⟩⟩⟩⟩⟩
      refine WriteString_use (lineB L[j]) hQ3 (cx.re (List.append_assoc _ _ _)) (by rw [List.length_append]; omega) fun Q4 w hQ4 cx => ⟨_, _, rfl, Q4 ++ (LedO q st ++ R), Φ3, inferInstance, by rw [List.append_assoc]; exact cx, by unfold I64; omega, _, Φ3, L.length - (j + 1), inferInstance, fun w G cx => cx, ⟨j + 1, Q4, by omega, hlt2, ?_, rfl, rfl, rfl⟩, by omega⟩
      rw [hstep, ← List.append_assoc]; exact hQ4
    · have hge2 : j = L.length := by have := of_decide_eq_false hge2; omega
      subst hge2
      rw [List.take_length] at hQ3
      rw [segsL_step, hseg, ← List.append_assoc, ← List.append_assoc, hpre]
      exact hQ3
  · have hge : i = st.bats.length := by have := of_decide_eq_false hge; omega
    subst hge
    exact String_use hQ (cx.re (List.append_assoc _ _ _)) fun w cx => ⟨_, rfl, LedO q st ++ R, Φ2, inferInstance, cx, fun w G cx => ⟨rfl, cx.left⟩⟩
end
end Go.Proofs.YtbkpfhhhbhaecaaGreatDoor
end

/-
  Short rows, and rows that are the same: walked (for seats without the place's functions).
-/
section
set_option linter.unusedVariables false
set_option linter.unusedSimpArgs false
namespace Go.Proofs.YtbkpfhhhbhaecaaGreatDoor
open Go.Vc


def shortB (r : List ValD) (n : Int) : Bool := (r.all fun v => decide (v.text.size ≤ 300)) && decide ((r.length : Int) ≤ n)

abbrev ValD.cells (x : ValD) : List Value := [.int .i64 x.kind, .int .i64 x.num, .string x.text]
theorem val_rep {M : List Nat} {w : World} {v : ValD} (h : (I64 v.kind ∧ I64 v.num) ∧ v.text.size ≤ maxLen) : Gv.rep M w v.cells v :=
  ⟨[.int .i64 v.kind], [.int .i64 v.num, .string v.text], rfl, ⟨rfl, h.1.1⟩, [.int .i64 v.num], [.string v.text], rfl, ⟨rfl, h.1.2⟩, rfl, h.2⟩
section
variable {Φ : PW} {p q : Option Addr} {cap cap2 : Nat} {r a b : List ValD} {W w : World} {R G : List Own}

theorem Short_in [Stable Φ] {n : Int} [hΦ : Has Φ (fun M w => Sl M w p r)] (hlen : r.length ≤ maxLen) : GivesIn Φ Tryz.prog F.errataref03_Short #[.slice p r.length cap, .int .i64 n] (.bool (shortB r n)) := by
  refine .there (fun M w h => (hΦ.go M w h).there) fun hta => ?_
  refine gives_in (Berrataref03_Short_run p r.length cap n) fun W R => ?_
  refine exI_mk (fun n R' Φ' k => ∃ i : Nat, n = i ∧ i ≤ r.length ∧ R' = R ∧ Φ' = Φ ∧ k = r.length - i ∧ ∀ v ∈ r.take i, v.text.size ≤ 300) ⟨⟨R, Φ, _, inferInstance, fun w F c => c, 0, rfl, Nat.zero_le _, rfl, rfl, rfl, by simp⟩, ?_⟩
  rintro n R1 Φ1 k _ ⟨i, rfl, hi, rfl, rfl, rfl, hs⟩
  refine Br.intro (fun hlt => ?_) (fun hge => fun w G cx => ⟨?_, cx.left⟩)
  · have hlt : i < r.length := by have := of_decide_eq_true hlt; omega
    obtain ⟨g1, o1, rfl⟩ := hta (by omega)
    refine ⟨by omega, ptrK_intro g1 o1 rfl fun w G cx => ⟨r[i].text, ?_, Br.intro (fun h => fun w G cx => ⟨?_, cx.left⟩) (fun h => ⟨by unfold I64; unfold maxLen at hlen; omega, R1, Φ1, r.length - (i + 1), inferInstance, fun w G cx => cx, ⟨i + 1, rfl, hlt, rfl, rfl, rfl, ?_⟩, by omega⟩)⟩⟩
    · rw [Int.toNat_natCast]
      exact sl_val (hΦ.go _ _ cx.phi) hlt 2 (by simp)
    · have h := of_decide_eq_true h
      unfold shortB
      rw [List.all_eq_false.2 ⟨r[i], List.getElem_mem _, by simp; omega⟩]; rfl
    · have h := of_decide_eq_false h
      rw [List.take_succ_eq_append_getElem hlt]
      intro v hv
      rcases List.mem_append.1 hv with hv | hv
      · exact hs v hv
      · rw [List.mem_singleton.1 hv]; omega
  · have hge : i = r.length := by have := of_decide_eq_false hge; omega
    subst hge
    rw [List.take_length] at hs
    unfold shortB
    rw [List.all_eq_true.2 fun v hv => decide_eq_true (hs v hv)]; rfl

theorem short_out {r : List ValD} {n : Int} (h : shortB r n = true) : (∀ v ∈ r, v.text.size ≤ 300) ∧ (r.length : Int) ≤ n := by
  unfold shortB at h
  rw [Bool.and_eq_true] at h
  exact ⟨fun v hv => of_decide_eq_true (List.all_eq_true.1 h.1 v hv), of_decide_eq_true h.2⟩
end
end Go.Proofs.YtbkpfhhhbhaecaaGreatDoor
end

