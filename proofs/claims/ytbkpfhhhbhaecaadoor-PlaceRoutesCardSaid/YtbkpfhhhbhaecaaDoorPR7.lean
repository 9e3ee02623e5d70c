/-
  The walks of Clone; what right rows are.
-/
import Derived.Test.YtbkpfhhhbhaecaaDoorPR6
import Derived.Shelf.Strings.Builder1
import Derived.Shelf.Small.Strs
import Derived.Shelf.Small.Wraps
import Derived.Shelf.Strings.BuilderF
import Derived.Shelf.Strings.BuilderK
import Derived.Shelf.Strconv.Itoa0
import Derived.Shelf.Strconv.Itoa1
import Derived.Shelf.LaysM
import Derived.Shelf.Strconv.Itoa2
import Derived.Shelf.Strconv.Itoa3
import Derived.Shelf.Strings.BuilderCap
import Derived.Shelf.Slices.Turned
import Derived.Shelf.Slices.Clone
import Derived.Shelf.Slices.SearchI
import Derived.Shelf.SlicesE.Clone
import Derived.Test.YtbkpfhhhbhaecaaDoorRows
import Derived.Test.YtbkpfhhhbhaecaaDoorPR5
import Derived.Lib.ItoaNum
import Derived.Lib.ConvBytes
import Derived.Lib.AtoiErrMem
import Derived.WalkKit
import Derived.OwnWalkIn
import Derived.TacticsInMore
import Derived.LoopNIn
import Derived.LoopIn

section
set_option linter.unusedVariables false
set_option linter.unusedSimpArgs false
namespace Go.Proofs.YtbkpfhhhbhaecaaDoor
open Go.Vc


theorem pin_delta {M : List Nat} {w : World} {b o : Nat} {cs : List (List Value)} {l : List DeltaD} (h : Pin b o cs l M w) {j : Nat} (hj : j < l.length) : ∃ p c, cs.getD j [] = l[j].cells p c ∧ l[j].row.length ≤ c ∧ c ≤ maxLen ∧ I64 l[j].time ∧ I64 l[j].n ∧ RowAt w b (o + j * 3) (l[j].cells p c) := by
  obtain ⟨_, h1, h2⟩ := h j hj
  obtain ⟨p, c, e, g1, g2, g3, g4, _⟩ := delta_cells h2
  exact ⟨p, c, e, g1, g2, g3, g4, by rw [e] at h1; exact h1⟩

theorem pin_row {M : List Nat} {w : World} {b o : Nat} {cs : List (List Value)} {l : List DeltaD} (h : Pin b o cs l M w) {j : Nat} (hj : j < l.length) {p : Option Addr} {c : Nat} (e : cs.getD j [] = l[j].cells p c) : Sl M w p l[j].row := by
  have := (h j hj).2.2
  rw [e] at this
  exact delta_row this

theorem pin_rowAt {M : List Nat} {w : World} {b o : Nat} {cs : List (List Value)} {l : List DeltaD} (h : Pin b o cs l M w) {j : Nat} (hj : j < l.length) {p : Option Addr} {c : Nat} (e : cs.getD j [] = l[j].cells p c) : RowAt w b (o + j * 3) (l[j].cells p c) := by
  have := (h j hj).2.1
  rw [e] at this
  exact this

/-- the pinned cells, for good -/
theorem in_cells {Φ : PW} {f : FuncId} {args : Array Value} {v : Value} {b o : Nat} {cs : List (List Value)} {l : List DeltaD} (hΦ : ∀ M w, Φ M w → Pin b o cs l M w)
    (h : (∀ j, (hj : j < l.length) → ∃ p c, cs.getD j [] = l[j].cells p c ∧ l[j].row.length ≤ c ∧ c ≤ maxLen ∧ I64 l[j].time ∧ I64 l[j].n) → GivesIn Φ Tryd.prog f args v) : GivesIn Φ Tryd.prog f args v :=
  ⟨fun W w S c => (h fun j hj => by obtain ⟨p, c, h1, h2, h3, h4, h5, _⟩ := pin_delta (hΦ _ _ c.phi) hj; exact ⟨p, c, h1, h2, h3, h4, h5⟩).go W w S c⟩

theorem len_max {n c : Nat} (h1 : n ≤ c) (h2 : c ≤ maxLen) : n ≤ 9223372036854775807 := Nat.le_trans h1 (Nat.le_trans h2 (by decide))

theorem val_one (M : List Nat) (w : World) (cs : List Value) (x : ValD) (h : Gv.rep M w cs x) : (cs.all fun u => oneC u) = true := by
  obtain ⟨_, _, rfl, ⟨rfl, _⟩, _, _, rfl, ⟨rfl, _⟩, rfl, _⟩ := h
  rfl

theorem CloneV_in {Φ : PW} [Stable Φ] (p : Option Addr) (cap : Nat) (l : List ValD) (hΦ : ∀ M w, Φ M w → Sl M w p l) (hlen : l.length < 100000000) :
    GivesNew Φ Tryd.prog F.slices_Clone_api_Value_api_Value #[.slice p l.length cap] l 99 := by
  refine .there (fun M w h => (hΦ M w h).there) fun hth => ?_
  refine gives_new (Bslices_Clone_api_Value_api_Value_run p l.length cap) fun W R => ?_
  refine Br.intro (fun hn => fun w F c => ?_) (fun hn => ?_)
  · have hl : l = [] := by
      cases l with
      | nil => rfl
      | cons => obtain ⟨b, o, e⟩ := hth (by simp); rw [e] at hn; cases hn
    subst hl
    exact ⟨none, 0, [], rfl, (c.left.buf0 99 3).add Elems.nil⟩
  · intro k w F c
    obtain ⟨p', cap', w', cs, hrun, c'⟩ := Ctx.cloned (P := Tryd.prog) (ts := 40) (ty := 40) (kb := #[false, false]) (bytes := 32) (c2 := cap) c (by kernel_rfl) val_one hΦ hlen (by omega)
    exact ⟨_, _, _, _, hrun, _, _, inferInstance, c', fun w F c => ⟨p', cap', cs, rfl, c.left⟩⟩

theorem CloneD_in {Φ : PW} [Stable Φ] (p : Option Addr) (cap : Nat) (l : List DeltaD) (hΦ : ∀ M w, Φ M w → Sl M w p l) (hlen : l.length < 100000000) :
    GivesNew Φ Tryd.prog F.slices_Clone_api_Delta_api_Delta #[.slice p l.length cap] l 77 := by
  refine .there (fun M w h => (hΦ M w h).there) fun hth => ?_
  refine gives_new (Bslices_Clone_api_Delta_api_Delta_run p l.length cap) fun W R => ?_
  refine Br.intro (fun hn => fun w F c => ?_) (fun hn => ?_)
  · have hl : l = [] := by
      cases l with
      | nil => rfl
      | cons => obtain ⟨b, o, e⟩ := hth (by simp); rw [e] at hn; cases hn
    subst hl
    exact ⟨none, 0, [], rfl, (c.left.buf0 77 3).add Elems.nil⟩
  · intro k w F c
    obtain ⟨p', cap', w', cs, hrun, c'⟩ := Ctx.cloned (P := Tryd.prog) (ts := 55) (ty := 55) (kb := #[false, false]) (bytes := 40) (c2 := cap) c (by kernel_rfl) delta_one hΦ hlen (by omega)
    exact ⟨_, _, _, _, hrun, _, _, inferInstance, c', fun w F c => ⟨p', cap', cs, rfl, c.left⟩⟩

/-! ### right rows -/
def rightV3 (x : ValD) : Bool := if x.kind = 0 then decide (x.text = ByteArray.mk #[]) else if x.kind = 1 then decide (x.num = 0) && decide ((x.text.size : Int) ≤ 200) else decide (x.kind = 2) && (decide (x.num = 0) || decide (x.num = 1)) && decide (x.text = ByteArray.mk #[])

theorem right3_g (x : ValD) : Gives Tryd.prog F.errataref03_Right #[x.v] (.bool (rightV3 x)) := by
  refine gives_of (Berrataref03_Right_run x.kind x.num x.text) fun W R Φ _ => fun _ => Br.intro (fun h => fun w G c => ⟨?_, c.left⟩) (fun h => Br.intro (fun h2 => fun w G c w G c => ⟨?_, c.left⟩) (fun h2 => fun w G c w G c => ⟨?_, c.left⟩))
  · unfold rightV3; rw [if_pos (of_decide_eq_true h)]
  · unfold rightV3; rw [if_neg (of_decide_eq_false h), if_pos (of_decide_eq_true h2)]
  · unfold rightV3; rw [if_neg (of_decide_eq_false h), if_neg (of_decide_eq_false h2)]

theorem All3_q {Φ : PW} [Stable Φ] (q : ValD → Bool) (hq : ∀ x, Gives Tryd.prog F.errataref03_Right #[x.v] (.bool (q x))) (p : Option Addr) (cap : Nat) (l : List ValD) (hΦ : ∀ M w, Φ M w → Sl M w p l) (hlen : l.length ≤ 9223372036854775807) : GivesIn Φ Tryd.prog F.errataref03_All #[.slice p l.length cap] (.bool (l.all q)) := by
  refine .there (fun M w h => (hΦ M w h).there) fun hth => ?_
  refine gives_in (Berrataref03_All_run p l.length cap) fun W R => ?_
  refine exI_mk (fun n R' Φ' k => ∃ i : Nat, n = i ∧ i ≤ l.length ∧ R' = R ∧ Φ' = Φ ∧ k = l.length - i ∧ l.all q = (l.drop i).all q) ⟨⟨R, Φ, _, inferInstance, fun w F c => c, 0, rfl, Nat.zero_le _, rfl, rfl, rfl, rfl⟩, ?_⟩
  rintro n R1 Φ1 k _ ⟨i, rfl, hi, rfl, rfl, rfl, hs⟩
  refine Br.intro (fun hlt => ?_) (fun hge => fun w F cx => ⟨?_, cx.left⟩)
  · have hlt : i < l.length := by simpa using hlt
    obtain ⟨b, o, rfl⟩ := hth (by omega)
    rw [List.drop_eq_getElem_cons hlt, List.all_cons] at hs
    refine ⟨by omega, ptrK_intro b o rfl fun w F cx => ⟨l[i].kind, l[i].num, l[i].text, by rw [Int.toNat_natCast]; exact sl_val (hΦ _ _ cx.phi) hlt, fun w F cx => (hq l[i]).use cx fun w cx => ⟨_, rfl, R1, Φ1, inferInstance, cx, Br.intro (fun h => fun w F cx => ⟨?_, cx.left⟩) (fun h => ⟨by unfold I64; omega, R1, Φ1, l.length - (i + 1), inferInstance, fun w F c => c, ⟨i + 1, rfl, hlt, rfl, rfl, rfl, ?_⟩, by omega⟩)⟩⟩⟩
    · rw [hs, show q l[i] = false by simpa using h, Bool.false_and]
    · rw [hs, show q l[i] = true by simpa using h, Bool.true_and]
  · have hge : i = l.length := Nat.le_antisymm hi (by simpa using hge)
    rw [hs, hge, List.drop_length]
    rfl

theorem All3_in {Φ : PW} [Stable Φ] (p : Option Addr) (cap : Nat) (l : List ValD) (hΦ : ∀ M w, Φ M w → Sl M w p l) (hlen : l.length ≤ 9223372036854775807) : GivesIn Φ Tryd.prog F.errataref03_All #[.slice p l.length cap] (.bool (l.all rightV3)) := All3_q rightV3 right3_g p cap l hΦ hlen

def rightR (l : List ValD) : Bool := decide ((l.length : Int) ≤ 12) && l.all rightV3

theorem RightRow3_in {Φ : PW} [Stable Φ] (p : Option Addr) (cap : Nat) (l : List ValD) (hΦ : ∀ M w, Φ M w → Sl M w p l) (hlen : l.length ≤ 9223372036854775807) : GivesIn Φ Tryd.prog F.errataref03_RightRow #[.slice p l.length cap] (.bool (rightR l)) := by
  have h1 := All3_in p cap l hΦ hlen
  unfold rightR
  generalize l.all rightV3 = c at h1
  refine gives_in (Berrataref03_RightRow_run p l.length cap) fun W R => Br.intro (fun h => fun w F cx => h1.use cx fun w cx => ⟨_, rfl, R, Φ, inferInstance, cx, fun w F cx => ⟨?_, cx.left⟩⟩) (fun h => fun w F cx => ⟨?_, cx.left⟩)
  · rw [h, Bool.true_and]
  · rw [h, Bool.false_and]

end Go.Proofs.YtbkpfhhhbhaecaaDoor
end

/-
  Places: the small functions, walked.
-/
section
set_option linter.unusedVariables false
set_option linter.unusedSimpArgs false
namespace Go.Proofs.YtbkpfhhhbhaecaaDoor
open Go.Vc


/-! ### in plain Lean -/
def minZ : List Int → Int
  | [] => 0
  | x :: r => r.foldl min x
def maxZ : List Int → Int
  | [] => 0
  | x :: r => r.foldl max x
theorem minZ_snoc {l : List Int} (h : l ≠ []) (x : Int) : minZ (l ++ [x]) = min (minZ l) x := by
  cases l with
  | nil => exact absurd rfl h
  | cons y l => simp [minZ]
theorem maxZ_snoc {l : List Int} (h : l ≠ []) (x : Int) : maxZ (l ++ [x]) = max (maxZ l) x := by
  cases l with
  | nil => exact absurd rfl h
  | cons y l => simp [maxZ]
theorem foldl_min (w : Int) : ∀ (l : List Int) (a : Int), w ≤ l.foldl min a ↔ w ≤ a ∧ ∀ x ∈ l, w ≤ x
  | [], a => by simp
  | x :: l, a => by
    rw [List.foldl_cons, foldl_min w l]
    simp only [List.mem_cons, forall_eq_or_imp]
    constructor
    · rintro ⟨h1, h2⟩; exact ⟨by omega, by omega, h2⟩
    · rintro ⟨h1, h2, h3⟩; exact ⟨by omega, h3⟩
theorem foldl_max (w : Int) : ∀ (l : List Int) (a : Int), l.foldl max a < w ↔ a < w ∧ ∀ x ∈ l, x < w
  | [], a => by simp
  | x :: l, a => by
    rw [List.foldl_cons, foldl_max w l]
    simp only [List.mem_cons, forall_eq_or_imp]
    constructor
    · rintro ⟨h1, h2⟩; exact ⟨by omega, by omega, h2⟩
    · rintro ⟨h1, h2, h3⟩; exact ⟨by omega, h3⟩
theorem minZ_le {l : List Int} (h : l ≠ []) (w : Int) : w ≤ minZ l ↔ ∀ x ∈ l, w ≤ x := by
  cases l with
  | nil => exact absurd rfl h
  | cons y l =>
    show w ≤ l.foldl min y ↔ _
    rw [foldl_min]
    simp
theorem maxZ_lt {l : List Int} (h : l ≠ []) (w : Int) : maxZ l < w ↔ ∀ x ∈ l, x < w := by
  cases l with
  | nil => exact absurd rfl h
  | cons y l =>
    show l.foldl max y < w ↔ _
    rw [foldl_max]
    simp
def rightZ (p : List Int) (W : Int) : Bool := decide (1 ≤ W) && (decide (W ≤ 8) && (decide ((p.length : Int) = 16) && (decide (0 ≤ minZ p) && decide (maxZ p < W))))
theorem rightZ_iff {p : List Int} {W : Int} : rightZ p W = true ↔ 1 ≤ W ∧ W ≤ 8 ∧ p.length = 16 ∧ ∀ x ∈ p, 0 ≤ x ∧ x < W := by
  unfold rightZ
  simp only [Bool.and_eq_true, decide_eq_true_eq]
  by_cases hn : p = []
  · subst hn
    simp
  · rw [minZ_le hn, maxZ_lt hn]
    constructor
    · rintro ⟨h1, h2, h3, h4, h5⟩; exact ⟨h1, h2, by omega, fun x hx => ⟨h4 x hx, h5 x hx⟩⟩
    · rintro ⟨h1, h2, h3, h4⟩; exact ⟨h1, h2, by omega, fun x hx => (h4 x hx).1, fun x hx => (h4 x hx).2⟩

/-- indices -/
def idxP (f : Nat → Bool) (n : Nat) : List Int := ((List.range n).filter f).map fun i => ((i : Nat) : Int)
theorem idxP_succ (f : Nat → Bool) (n : Nat) : idxP f (n + 1) = idxP f n ++ if f n = true then [(n : Int)] else [] := by
  unfold idxP
  rw [List.range_succ, List.filter_append, List.map_append]
  congr 1
  by_cases h : f n = true
  · simp [h]
  · simp [h]
theorem idxP_len (f : Nat → Bool) (n : Nat) : (idxP f n).length ≤ n := by
  unfold idxP
  rw [List.length_map]
  have := List.length_filter_le f (List.range n)
  rw [List.length_range] at this
  exact this
def evenAt (W : Int) (b : Nat) : Int := ((b : Int) * W).tdiv 16
def evenP (W : Int) : List Int := if W < 1 ∨ 8 < W then [] else (List.range 16).map (evenAt W)

/-! ### walked -/
theorem int_one (M : List Nat) (w : World) (cs : List Value) (x : Int) (h : Gv.rep M w cs x) : (cs.all fun u => oneC u) = true := by
  obtain ⟨rfl, _⟩ := h
  rfl

section
variable {W w : World} {R G : List Own} {Φ PS : PW} {p q : Option Addr} {cap cap2 : Nat} {l a b : List Int}

/-- append one int -/
theorem pushZ [Stable PS] {op : Option Addr} {oc kb : Nat} {o : List Int} {x : Int} (ho : o.length < 10000000) (cx : Ctx W w (.blk kb [.int .i64 x] 3 :: bufZ op oc o :: R ++ G) PS) :
    ∃ p c w', Sem.run Tryd.prog (builtin Builtin.append #[22, 22] 22 #[false, false] #[.slice op o.length oc, .slice (some ⟨kb, 0, none⟩) 1 1]) w = .ok (.value (.slice p (o ++ [x]).length c)) w' ∧ Ctx W w' (bufZ p c (o ++ [x]) :: R ++ G) PS := by
  obtain ⟨p', cap', w', hrun, _, cx'⟩ := Ctx.app1 (P := Tryd.prog) (ts := 22) (ty := 22) (kb := #[false, false]) (size := 1) (bytes := 8) cx (by kernel_rfl) (by omega) rfl rfl (by omega) (by omega)
  have e : o.length + 1 = (o ++ [x]).length := by simp
  have em : o.map intv ++ [.int .i64 x] = (o ++ [x]).map intv := by rw [List.map_append]; rfl
  rw [e] at hrun cx'
  rw [em] at cx'
  exact ⟨p', cap', w', hrun, cx'⟩

theorem CloneZ_in [Stable Φ] (hΦ : ∀ M w, Φ M w → Sl M w p l) (hlen : l.length < 100000000) : GivesNew Φ Tryd.prog F.slices_Clone_int_int #[.slice p l.length cap] l 3 := by
  refine .there (fun M w h => (hΦ M w h).there) fun hth => ?_
  refine gives_new (Bslices_Clone_int_int_run p l.length cap) fun W R => ?_
  refine Br.intro (fun hn => fun w F c => ?_) (fun hn => ?_)
  · have hl : l = [] := by
      cases l with
      | nil => rfl
      | cons => obtain ⟨b, o, e⟩ := hth (by simp); rw [e] at hn; cases hn
    subst hl
    exact ⟨none, 0, [], rfl, (c.left.buf0 3 1).add Elems.nil⟩
  · intro k w F c
    obtain ⟨p', cap', w', cs, hrun, c'⟩ := Ctx.cloned (P := Tryd.prog) (ts := 22) (ty := 22) (kb := #[false, false]) (bytes := 8) (c2 := cap) c (by kernel_rfl) int_one hΦ hlen (by omega)
    exact ⟨_, _, _, _, hrun, _, _, inferInstance, c', fun w F c => ⟨p', cap', cs, rfl, c.left⟩⟩

theorem Min_in [Stable Φ] [hΦ : Has Φ (fun M w => Sl M w p l)] (h0 : 0 < l.length) (hlen : l.length ≤ 1000000) : GivesIn Φ Tryd.prog F.slices_Min_int_int #[.slice p l.length cap] (.int .i64 (minZ l)) := by
  refine .there (fun M w h => (hΦ.go M w h).there) fun hth => ?_
  obtain ⟨g, o, rfl⟩ := hth h0
  refine gives_in (Bslices_Min_int_int_run _ l.length cap) fun W R => Br.intro (fun h => by have := of_decide_eq_true h; omega) (fun _ => ⟨by omega, ptrK_intro g o rfl fun w G cx => ⟨l[0], sl_int (hΦ.go _ _ cx.phi) h0, ?_⟩⟩)
  clear cx
  refine exI_mk (fun n iI R' Φ' k => ∃ i : Nat, iI = i ∧ 1 ≤ i ∧ i ≤ l.length ∧ n = minZ (l.take i) ∧ R' = R ∧ Φ' = Φ ∧ k = l.length - i) ⟨⟨R, Φ, _, inferInstance, fun w G cx => cx, 1, rfl, by omega, by omega, ?_, rfl, rfl, rfl⟩, ?_⟩
  · cases l with
    | nil => simp at h0
    | cons x l => simp [minZ]
  rintro n iI R1 Φ1 k _ ⟨i, rfl, h1, hi, rfl, rfl, rfl, rfl⟩
  refine Br.intro (fun hlt => ?_) (fun hge => fun w G cx => ⟨?_, cx.left⟩)
  · have hlt : i < l.length := by have := of_decide_eq_true hlt; omega
    refine ⟨by omega, ptrK_intro g o rfl fun w G cx => ⟨l[i], by rw [Int.toNat_natCast]; exact sl_int (hΦ.go _ _ cx.phi) hlt, by unfold I64; omega, R1, Φ1, l.length - (i + 1), inferInstance, fun w G cx => cx, ⟨i + 1, by omega, by omega, hlt, ?_, rfl, rfl, rfl⟩, by omega⟩⟩
    rw [List.take_succ_eq_append_getElem hlt, minZ_snoc (by intro e; have := congrArg List.length e; rw [List.length_take, List.length_nil] at this; omega)]
  · have hge : i = l.length := by have := of_decide_eq_false hge; omega
    rw [hge, List.take_length]
theorem Max_in [Stable Φ] [hΦ : Has Φ (fun M w => Sl M w p l)] (h0 : 0 < l.length) (hlen : l.length ≤ 1000000) : GivesIn Φ Tryd.prog F.slices_Max_int_int #[.slice p l.length cap] (.int .i64 (maxZ l)) := by
  refine .there (fun M w h => (hΦ.go M w h).there) fun hth => ?_
  obtain ⟨g, o, rfl⟩ := hth h0
  refine gives_in (Bslices_Max_int_int_run _ l.length cap) fun W R => Br.intro (fun h => by have := of_decide_eq_true h; omega) (fun _ => ⟨by omega, ptrK_intro g o rfl fun w G cx => ⟨l[0], sl_int (hΦ.go _ _ cx.phi) h0, ?_⟩⟩)
  clear cx
  refine exI_mk (fun n iI R' Φ' k => ∃ i : Nat, iI = i ∧ 1 ≤ i ∧ i ≤ l.length ∧ n = maxZ (l.take i) ∧ R' = R ∧ Φ' = Φ ∧ k = l.length - i) ⟨⟨R, Φ, _, inferInstance, fun w G cx => cx, 1, rfl, by omega, by omega, ?_, rfl, rfl, rfl⟩, ?_⟩
  · cases l with
    | nil => simp at h0
    | cons x l => simp [maxZ]
  rintro n iI R1 Φ1 k _ ⟨i, rfl, h1, hi, rfl, rfl, rfl, rfl⟩
  refine Br.intro (fun hlt => ?_) (fun hge => fun w G cx => ⟨?_, cx.left⟩)
  · have hlt : i < l.length := by have := of_decide_eq_true hlt; omega
    refine ⟨by omega, ptrK_intro g o rfl fun w G cx => ⟨l[i], by rw [Int.toNat_natCast]; exact sl_int (hΦ.go _ _ cx.phi) hlt, by unfold I64; omega, R1, Φ1, l.length - (i + 1), inferInstance, fun w G cx => cx, ⟨i + 1, by omega, by omega, hlt, ?_, rfl, rfl, rfl⟩, by omega⟩⟩
    rw [List.take_succ_eq_append_getElem hlt, maxZ_snoc (by intro e; have := congrArg List.length e; rw [List.length_take, List.length_nil] at this; omega)]
  · have hge : i = l.length := by have := of_decide_eq_false hge; omega
    rw [hge, List.take_length]

theorem RightZ_in [Stable Φ] {n : Int} [hΦ : Has Φ (fun M w => Sl M w p l)] : GivesIn Φ Tryd.prog F.place_Right #[.slice p l.length cap, .int .i64 n] (.bool (rightZ l n)) := by
  refine gives_in (Bplace_Right_run p l.length cap n) fun W R => ?_
  unfold rightZ
  refine Br.intro (fun h1 => Br.intro (fun h2 => Br.intro (fun h3 => ?_) (fun h3 => fun w G cx => ⟨?_, cx.left⟩)) (fun h2 => fun w G cx => ⟨?_, cx.left⟩)) (fun h1 => fun w G cx => ⟨?_, cx.left⟩)
  · rw [h1, h2, h3, Bool.true_and, Bool.true_and, Bool.true_and]
    have hl : l.length = 16 := by have := of_decide_eq_true h3; omega
    refine fun w G cx => (Min_in (by omega) (by omega)).toI cx (Br.intro (fun h4 => ?_) (fun h4 => fun w G cx => ⟨by rw [h4]; rfl, cx.left⟩))
    rw [h4, Bool.true_and]
    exact fun w G cx => (Max_in (by omega) (by omega)).toI cx fun w G cx => ⟨rfl, cx.left⟩
  · rw [h1, h2, h3]; rfl
  · rw [h1, h2]; rfl
  · rw [h1]; rfl

end
end Go.Proofs.YtbkpfhhhbhaecaaDoor
end

/-
  Places: shares, rooms, walked.
-/
section
set_option linter.unusedVariables false
set_option linter.unusedSimpArgs false
namespace Go.Proofs.YtbkpfhhhbhaecaaDoor
open Go.Vc


/-! ### arrays of eight -/
def cells8 (f : Nat → Int) : List Value := (List.range 8).map fun i => intv (f i)
theorem cells8_len (f : Nat → Int) : (cells8 f).length = 8 := rfl
theorem cells8_at (f : Nat → Int) {i : Nat} (h : i < 8) : (cells8 f)[i]? = some (intv (f i)) := by
  unfold cells8
  rw [List.getElem?_map, List.getElem?_range h]
  rfl
theorem cells8_set (f : Nat → Int) {w : Nat} (h : w < 8) (x : Int) : (cells8 f).set w (intv x) = cells8 (fun i => if i = w then x else f i) := by
  refine List.ext_getElem? fun i => ?_
  rw [List.getElem?_set]
  by_cases hi : i < 8
  · rw [cells8_at _ hi, cells8_at _ hi]
    by_cases hw : w = i
    · rw [if_pos hw, if_pos (by rw [cells8_len]; omega), if_pos hw.symm]
    · rw [if_neg hw, if_neg (fun e => hw e.symm)]
  · rw [if_neg (by omega), List.getElem?_eq_none (by rw [cells8_len]; omega), List.getElem?_eq_none (by rw [cells8_len]; omega)]
theorem cells8_congr {f g : Nat → Int} (h : ∀ i, i < 8 → f i = g i) : cells8 f = cells8 g := by
  unfold cells8
  refine List.map_congr_left fun i hi => ?_
  rw [h i (List.mem_range.1 hi)]

/-! ### keeping, step by step -/
theorem keepG_snoc (W : Nat) : ∀ (p : List Int) (room : Nat → Nat) (x : Int), keepG W (p ++ [x]) room = if x < W ∧ 0 < (keepG W p room).2 x.toNat then ((keepG W p room).1 ++ [true], fun i => if i = x.toNat then (keepG W p room).2 i - 1 else (keepG W p room).2 i) else ((keepG W p room).1 ++ [false], (keepG W p room).2)
  | [], room, x => by
    simp only [List.nil_append, keepG]
    rfl
  | y :: p, room, x => by
    rw [List.cons_append]
    by_cases hy : y < W ∧ 0 < room y.toNat
    · have e : ∀ q, keepG W (y :: q) room = (true :: (keepG W q (fun i => if i = y.toNat then room i - 1 else room i)).1, (keepG W q (fun i => if i = y.toNat then room i - 1 else room i)).2) := fun q => by conv => lhs; unfold keepG; rw [if_pos hy]
      rw [e, e, keepG_snoc W p]
      simp only
      split <;> rfl
    · have e : ∀ q, keepG W (y :: q) room = (false :: (keepG W q room).1, (keepG W q room).2) := fun q => by conv => lhs; unfold keepG; rw [if_neg hy]
      rw [e, e, keepG_snoc W p]
      simp only
      split <;> rfl
theorem keepG_pre (W : Nat) (room : Nat → Nat) : ∀ (q p : List Int), (keepG W (p ++ q) room).1.take p.length = (keepG W p room).1
  | [], p => by
    rw [List.append_nil]
    exact List.take_of_length_le (by rw [keepG_len]; exact Nat.le_refl _)
  | x :: q, p => by
    have h := keepG_pre W room q (p ++ [x])
    rw [List.append_assoc, List.singleton_append] at h
    have h2 := congrArg (List.take p.length) h
    rw [List.take_take, List.length_append, List.length_singleton, Nat.min_eq_left (by omega)] at h2
    rw [h2, keepG_snoc]
    split <;> exact List.take_left' (keepG_len W p room)
/-- a flag, at its place -/
theorem keepG_flag (W : Nat) (room : Nat → Nat) {l : List Int} {i : Nat} (h : i < l.length) : (keepG W l room).1[i]? = some (decide (l[i] < W ∧ 0 < (keepG W (l.take i) room).2 l[i].toNat)) := by
  have h1 := keepG_pre W room (l.drop (i + 1)) (l.take (i + 1))
  rw [List.take_append_drop, List.length_take, Nat.min_eq_left (by omega), List.take_succ_eq_append_getElem h, keepG_snoc] at h1
  have h2 : ((keepG W l room).1.take (i + 1))[i]? = (keepG W l room).1[i]? := List.getElem?_take_of_lt (by omega)
  rw [← h2, h1]
  have hl : (keepG W (l.take i) room).1.length = i := by rw [keepG_len, List.length_take]; omega
  split
  · rename_i hc
    rw [decide_eq_true hc, List.getElem?_append_right (by omega), hl, Nat.sub_self]
    rfl
  · rename_i hc
    rw [decide_eq_false hc, List.getElem?_append_right (by omega), hl, Nat.sub_self]
    rfl

section
variable {Φ : PW} {p : Option Addr} {cap : Nat} {l : List Int}

theorem share_take {l : List Int} {i : Nat} (h : i < l.length) (w : Nat) : shareP (l.take (i + 1)) w = shareP (l.take i) w + if l[i] = (w : Int) then 1 else 0 := by
  unfold shareP
  rw [List.take_succ_eq_append_getElem h, List.count_append]
  congr 1
  by_cases hx : l[i] = (w : Int)
  · simp [hx]
  · simp [hx]

theorem Shares_in [Stable Φ] [hΦ : Has Φ (fun M w => Sl M w p l)] (hl : l.length ≤ 1000000) (h8 : ∀ x ∈ l, 0 ≤ x ∧ x < 8) : GivesIn Φ Tryd.prog F.place_shares #[.slice p l.length cap] (.agg (cells8 fun w => (shareP l w : Int)).toArray) := by
  refine .there (fun M w h => (hΦ.go M w h).there) fun hth => ?_
  refine gives_in (Bplace_shares_run p l.length cap) fun W R => ?_
  intro _ k0
  refine exI_mk (fun iI R' Φ' m => ∃ i : Nat, iI = i ∧ i ≤ l.length ∧ R' = .blk k0 (cells8 fun w => (shareP (l.take i) w : Int)) 102 :: R ∧ Φ' = Φ ∧ m = l.length - i) ⟨⟨_, Φ, _, inferInstance, fun w G cx => cx, 0, rfl, Nat.zero_le _, rfl, rfl, rfl⟩, ?_⟩
  rintro iI R1 Φ1 m _ ⟨i, rfl, hi, rfl, rfl, rfl⟩
  refine Br.intro (fun hlt => ?_) (fun hge => fun w G cx => ?_)
  · have hlt : i < l.length := by have := of_decide_eq_true hlt; omega
    obtain ⟨g, o, rfl⟩ := hth (by omega)
    obtain ⟨x0, x8⟩ := h8 _ (List.getElem_mem hlt)
    obtain ⟨x, hx⟩ : ∃ x : Nat, l[i] = (x : Int) := ⟨l[i].toNat, by omega⟩
    have hx8 : x < 8 := by omega
    have hc : shareP (l.take i) x ≤ i := by
      unfold shareP
      have := List.count_le_length (a := (x : Int)) (l := l.take i)
      rw [List.length_take] at this
      omega
    refine ⟨by omega, ptrK_intro g o rfl fun w G cx => ⟨(x : Int), by rw [Int.toNat_natCast, ← hx]; exact sl_int (hΦ.go _ _ cx.phi) hlt, by omega, fun w G cx => ⟨(shareP (l.take i) x : Int), cx.get 0 rfl (by rw [Nat.zero_add, Int.toNat_natCast]; exact cells8_at _ hx8), by unfold I64; omega, by omega, fun w G cx => ⟨cx.can 0 rfl (by rw [cells8_len]; omega), fun w' hw' => ?_⟩⟩⟩⟩
    rw [Nat.zero_add, Int.toNat_natCast] at hw'
    have cx2 := cx.put 0 hw' rfl
    rw [cells8_set _ hx8] at cx2
    have e : (cells8 fun j => if j = x then ((shareP (l.take i) x : Int) + 1) else (shareP (l.take i) j : Int)) = cells8 fun w => (shareP (l.take (i + 1)) w : Int) := cells8_congr fun j hj => by
      rw [share_take hlt, hx]
      by_cases hjx : j = x
      · rw [if_pos hjx, if_pos (by omega), hjx]; rfl
      · rw [if_neg hjx, if_neg (by omega)]; rfl
    have cx3 : Ctx W w' (.blk k0 (cells8 fun w => (shareP (l.take (i + 1)) w : Int)) 102 :: R ++ G) Φ1 := by
      rw [← e]
      exact cx2
    exact ⟨_, Φ1, inferInstance, cx3, by unfold I64; omega, _, Φ1, l.length - (i + 1), inferInstance, fun w G cx => cx, ⟨i + 1, by omega, hlt, rfl, rfl, rfl⟩, by omega⟩
  · have hge : i = l.length := by have := of_decide_eq_false hge; omega
    subst hge
    rw [List.take_length] at cx
    exact ⟨_, _, _, _, _, _, _, _, cx.row0 0 rfl, fun w G cx => ⟨rfl, cx.left.drop1⟩⟩
end
end Go.Proofs.YtbkpfhhhbhaecaaDoor
end

/-
  Spread, walked.
-/
section
set_option linter.unusedVariables false
set_option linter.unusedSimpArgs false
namespace Go.Proofs.YtbkpfhhhbhaecaaDoor
open Go.Vc


theorem firstG_before (room : Nat → Nat) : ∀ (n i j : Nat), i ≤ j → j < firstG room n i → ¬ 0 < room j
  | 0, i, j, h1, h2 => by unfold firstG at h2; omega
  | n + 1, i, j, h1, h2 => by
    unfold firstG at h2
    split at h2
    · omega
    · rename_i h0
      rcases Nat.lt_or_ge i j with h | h
      · exact firstG_before room n (i + 1) j h h2
      · rw [show j = i by omega]; exact h0

/-- an array of rooms: none beyond the workers -/
def arrR (N : Nat) (room : Nat → Nat) : List Value := cells8 fun w => if w < N then (room w : Int) else 0
theorem arrR_at {N : Nat} (room : Nat → Nat) {w : Nat} (h : w < N) (h8 : N ≤ 8) : (arrR N room)[w]? = some (intv (room w)) := by
  unfold arrR
  rw [cells8_at _ (by omega), if_pos h]
theorem arrR_dec {N : Nat} (room : Nat → Nat) {w : Nat} (h : w < N) (h8 : N ≤ 8) (h0 : 0 < room w) : (arrR N room).set w (intv ((room w : Int) - 1)) = arrR N (fun i => if i = w then room i - 1 else room i) := by
  unfold arrR
  rw [cells8_set _ (by omega)]
  refine cells8_congr fun i hi => ?_
  by_cases hw : i = w
  · subst hw
    rw [if_pos rfl, if_pos h]
    simp only [if_true]
    omega
  · rw [if_neg hw]
    simp only [hw, if_false]

section
variable {W w : World} {S : List Own} {Φ : PW} {k : Nat} {f : Nat → Int} {t : TypeId}
theorem IndexR_use [Stable Φ] {m : Nat} (hm : m < 8) (h1 : 0 < f m) (h2 : ∀ i, i < m → ¬ 0 < f i) (c : Ctx W w (.blk k (cells8 f) t :: S) Φ) {K : Ending → World → Prop}
    (hk : ∀ w', Ctx W w' (.blk k (cells8 f) t :: S) Φ → K (.returned (.int .i64 (m : Int))) w') : Calls Tryd.prog F.slices_IndexFunc_int_int #[.slice (some ⟨k, 0, none⟩) 8 8, .func (.func F.place_Spread_2) #[] #[]] w K := by
  refine (Bslices_IndexFunc_int_int_run (some ⟨k, 0, none⟩) 8 8 F.place_Spread_2 #[] (J := fun u w' => K (.returned u) w') (R := .blk k (cells8 f) t :: S) c ?_).mono fun e w' ⟨v, he, hj⟩ => by rw [he]; exact hj
  refine exI_mk (fun iI R' Φ' q => ∃ i : Nat, iI = i ∧ i ≤ m ∧ R' = .blk k (cells8 f) t :: S ∧ Φ' = Φ ∧ q = 8 - i) ⟨⟨_, Φ, _, inferInstance, fun w G cx => cx, 0, rfl, Nat.zero_le _, rfl, rfl, rfl⟩, ?_⟩
  rintro iI R1 Φ1 q _ ⟨i, rfl, hi, rfl, rfl, rfl⟩
  refine Br.intro (fun _ => ?_) (fun h => by have := of_decide_eq_false h; omega)
  refine ⟨by omega, ptrK_intro k 0 rfl fun w G cx => ⟨f i, cx.get 0 rfl (by rw [Nat.zero_add, Int.toNat_natCast]; exact cells8_at f (by omega)), fun w G cx => ⟨by kernel_rfl, ?_⟩⟩⟩
  have hg : Gives Tryd.prog F.place_Spread_2 #[.int .i64 (f i)] (.bool (decide (0 < f i))) := gives_of (Bplace_Spread_2_run (f i)) fun W R Φ _ => fun w G cx => ⟨rfl, cx.left⟩
  refine (hg.in).toB cx (Br.intro (fun hp => fun w G cx => ?_) (fun hp => ⟨by unfold I64; omega, _, Φ1, 8 - (i + 1), inferInstance, fun w G cx => cx, ⟨i + 1, by omega, ?_, rfl, rfl, rfl⟩, by omega⟩))
  · have hp := of_decide_eq_true hp
    have : i = m := by
      rcases Nat.lt_or_ge i m with h | h
      · exact absurd hp (h2 i h)
      · omega
    rw [this]
    exact hk w cx.left
  · have hp := of_decide_eq_false hp
    have : i ≠ m := fun e => hp (by rw [e]; exact h1)
    omega
end

def rangeZ (n : Nat) : List Int := (List.range n).map fun j => ((j : Nat) : Int)
theorem rangeZ_succ (n : Nat) : rangeZ (n + 1) = rangeZ n ++ [(n : Int)] := by
  unfold rangeZ
  rw [List.range_succ, List.map_append]
  rfl
theorem rangeZ_len (n : Nat) : (rangeZ n).length = n := by unfold rangeZ; rw [List.length_map, List.length_range]

/-- the order by shares -/
def cmpS (l : List Int) (x y : Int) : Int := (shareP l y.toNat : Int) - (shareP l x.toNat : Int)
theorem cmpS_ord (l : List Int) : Ord (leZ (cmpS l)) := by
  refine ⟨fun x y => ?_, fun x y z h1 h2 => ?_⟩
  · unfold leZ cmpS; omega
  · unfold leZ cmpS at *; omega

theorem ord_of {l : List Int} {n : Nat} {x : List Int} (hp : x.Perm (rangeZ n)) (ha : Asc (leZ (cmpS l)) x) : OrdOf l n (x.map Int.toNat) ∧ x = (x.map Int.toNat).map fun j => ((j : Nat) : Int) := by
  have h0 : ∀ y ∈ x, 0 ≤ y := fun y hy => by
    obtain ⟨j, _, rfl⟩ := List.mem_map.1 (hp.mem_iff.1 hy)
    omega
  refine ⟨⟨?_, ?_⟩, ?_⟩
  · have h1 := hp.map Int.toNat
    have h2 : (rangeZ n).map Int.toNat = List.range n := by
      unfold rangeZ
      rw [List.map_map]
      refine (List.map_congr_left (g := id) fun j _ => ?_).trans (List.map_id _)
      simp
    rw [h2] at h1
    exact h1
  · rw [List.pairwise_map]
    refine ha.imp fun {a b} h => ?_
    unfold leZ cmpS at h
    omega
  · rw [List.map_map]
    refine ((List.map_congr_left (g := id) fun j hj => ?_).trans (List.map_id _)).symm
    have := h0 j hj
    simp; omega

theorem nodup_take {O : List Nat} (h : O.Nodup) {i r : Nat} (hi : i < O.length) : O[i] ∈ O.take r ↔ i < r := by
  constructor
  · intro hm
    obtain ⟨j, hj, e⟩ := List.getElem_of_mem hm
    rw [List.length_take] at hj
    rw [List.getElem_take] at e
    have := (List.getElem_inj h (h₀ := by omega) (h₁ := hi)).1 e
    omega
  · intro hr
    have : (O.take r)[i]'(by rw [List.length_take]; omega) = O[i] := List.getElem_take
    rw [← this]
    exact List.getElem_mem _

/-! ### filling, step by step -/
def fillRoom (W : Nat) : List Bool → (Nat → Nat) → (Nat → Nat)
  | [], room => room
  | true :: fl, room => fillRoom W fl room
  | false :: fl, room => fillRoom W fl (fun i => if i = firstG room W 0 then room i - 1 else room i)
theorem fillRoom_snoc (W : Nat) : ∀ (fl : List Bool) (room : Nat → Nat) (c : Bool), fillRoom W (fl ++ [c]) room = if c = true then fillRoom W fl room else fun i => if i = firstG (fillRoom W fl room) W 0 then fillRoom W fl room i - 1 else fillRoom W fl room i
  | [], room, c => by cases c <;> rfl
  | true :: fl, room, c => by
    show fillRoom W (fl ++ [c]) room = _
    rw [fillRoom_snoc W fl]; rfl
  | false :: fl, room, c => by
    show fillRoom W (fl ++ [c]) _ = _
    rw [fillRoom_snoc W fl]; rfl
theorem fillG_false (W : Nat) : ∀ (p : List Int) (fl : List Bool) (room : Nat → Nat) (b : Nat), fl.length = p.length → fl[b]? = some false → (fillG W p fl room)[b]? = some ((firstG (fillRoom W (fl.take b) room) W 0 : Nat) : Int)
  | [], [], _, b, _, h => by simp at h
  | [], _ :: _, _, _, h, _ => by simp at h
  | _ :: _, [], _, _, h, _ => by simp at h
  | x :: p, true :: fl, room, b, hl, h => by
    cases b with
    | zero => simp at h
    | succ b =>
      have := fillG_false W p fl room b (by simpa using hl) (by simpa using h)
      simpa [fillG, fillRoom] using this
  | x :: p, false :: fl, room, b, hl, h => by
    cases b with
    | zero => rfl
    | succ b =>
      have := fillG_false W p fl (fun i => if i = firstG room W 0 then room i - 1 else room i) b (by simpa using hl) (by simpa using h)
      simpa [fillG, fillRoom] using this
/-- what is left to give, and where -/
theorem fillRoom_sum {W : Nat} : ∀ (fl : List Bool) (room : Nat → Nat), sumF room W = missing fl → ∀ b, b ≤ fl.length → sumF (fillRoom W (fl.take b) room) W = missing (fl.drop b)
  | [], room, h, b, hb => by
    have : b = 0 := by simpa using hb
    subst this
    exact h
  | c :: fl, room, h, 0, _ => h
  | true :: fl, room, h, b + 1, hb => fillRoom_sum fl room (by rw [h]; simp [missing]) b (by simpa using hb)
  | false :: fl, room, h, b + 1, hb => by
    obtain ⟨_, _, g3⟩ := room_step (room := room) (W := W) (m := missing fl) (by rw [h]; simp [missing])
    exact fillRoom_sum fl _ g3 b (by simpa using hb)

end Go.Proofs.YtbkpfhhhbhaecaaDoor
end

/-
  Spread, walked.
-/
section
set_option linter.unusedVariables false
set_option linter.unusedSimpArgs false
namespace Go.Proofs.YtbkpfhhhbhaecaaDoor
open Go.Vc


theorem tdivN (N : Nat) : (16 : Int).tdiv (N : Int) = ((16 / N : Nat) : Int) := rfl
theorem tmodN (N : Nat) : (16 : Int).tmod (N : Int) = ((16 % N : Nat) : Int) := rfl
def shareL (l : List Int) : List Int := (List.range 8).map fun w => (shareP l w : Int)
theorem shareL_at (l : List Int) {i : Nat} (h : i < (shareL l).length) : (shareL l)[i] = (shareP l i : Int) := by simp [shareL]
theorem share_le (l : List Int) (w : Nat) : shareP l w ≤ l.length := List.count_le_length

/-- the positions of those that are not kept -/
def restP (fl : List Bool) (i : Nat) : List Int := idxP (fun j => decide (fl[j]? = some false)) i

theorem elems_intv {M : List Nat} {w : World} {cs : List Value} {l : List Int} (h : Elems M w cs l) : cs = l.map intv := by
  obtain ⟨h1, h2⟩ := h
  have h1 : cs.length = l.length := by rw [h1]; exact Nat.mul_one _
  refine List.ext_getElem (by rw [List.length_map]; exact h1) fun j hj1 hj2 => ?_
  have hj : j < l.length := by omega
  have h3 := h2 j hj
  rw [rep_int] at h3
  have h4 := congrArg (fun x => x[0]?) h3.1
  simp only [show (Gv.ty Int).size = 1 from rfl, Nat.mul_one] at h4
  rw [List.getElem?_take_of_lt (by omega), List.getElem?_drop, Nat.add_zero, List.getElem?_eq_getElem hj1] at h4
  rw [List.getElem_map]
  exact Option.some.inj h4
theorem idxP_app (f : Nat → Bool) (b : Nat) : ∀ d, ∃ r, idxP f (b + d) = idxP f b ++ r
  | 0 => ⟨[], by rw [List.append_nil]; rfl⟩
  | d + 1 => by
    obtain ⟨r, hr⟩ := idxP_app f b d
    exact ⟨_, by rw [← Nat.add_assoc, idxP_succ, hr, List.append_assoc]⟩
theorem rest_at {fl : List Bool} {b n : Nat} (hb : b < n) (h : fl[b]? = some false) : (restP fl n)[(restP fl b).length]? = some (b : Int) := by
  obtain ⟨r, hr⟩ := idxP_app (fun j => decide (fl[j]? = some false)) (b + 1) (n - (b + 1))
  rw [show b + 1 + (n - (b + 1)) = n by omega, idxP_succ, if_pos (decide_eq_true h), List.append_assoc] at hr
  unfold restP
  rw [hr, List.getElem?_append_right (Nat.le_refl _), Nat.sub_self]
  rfl
theorem rest_false {fl : List Bool} {b : Nat} (h : fl[b]? = some false) : restP fl (b + 1) = restP fl b ++ [(b : Int)] := by
  unfold restP
  rw [idxP_succ, if_pos (decide_eq_true h)]
theorem rest_true {fl : List Bool} {b : Nat} (h : fl[b]? = some true) : restP fl (b + 1) = restP fl b := by
  unfold restP
  rw [idxP_succ, if_neg (by rw [h]; simp), List.append_nil]

/-- half filled -/
def mixP (q l : List Int) (b : Nat) : List Int := q.take b ++ l.drop b
theorem mix_set {q l : List Int} {b : Nat} {x : Int} (hl : b < l.length) (hql : q.length = l.length) (hq : q[b]? = some x) : (mixP q l b).set b x = mixP q l (b + 1) := by
  have hbq : b < q.length := by omega
  unfold mixP
  have ht : (q.take b).length = b := by rw [List.length_take]; omega
  rw [List.set_append_right _ _ (by omega), ht, Nat.sub_self, List.drop_eq_getElem_cons hl, List.set_cons_zero, List.take_succ_eq_append_getElem hbq, List.append_assoc]
  rw [List.getElem?_eq_getElem hbq] at hq
  rw [Option.some.inj hq]
  rfl
theorem mix_same {q l : List Int} {b : Nat} (hl : b < l.length) (hql : q.length = l.length) (hq : q[b]? = some l[b]) : mixP q l (b + 1) = mixP q l b := by
  have hbq : b < q.length := by omega
  unfold mixP
  rw [List.getElem?_eq_getElem hbq] at hq
  rw [List.take_succ_eq_append_getElem hbq, List.append_assoc, Option.some.inj hq, List.singleton_append, ← List.drop_eq_getElem_cons hl]
theorem take_snoc {fl : List Bool} {b : Nat} {c : Bool} (h : fl[b]? = some c) : fl.take (b + 1) = fl.take b ++ [c] := by
  obtain ⟨hb, e⟩ := List.getElem?_eq_some_iff.1 h
  rw [List.take_succ_eq_append_getElem hb, e]
/-- the next one that is not kept -/
theorem adv {W n : Nat} {q l : List Int} {fl : List Bool} {room : Nat → Nat} (hl : l.length = n) (hq : q.length = n) (hf : fl.length = n) (hk : ∀ j (hj : j < l.length), fl[j]? = some true → q[j]? = some l[j]) : ∀ (d b : Nat), b + d = n →
    ∃ b', b' ≤ n ∧ (b' < n → fl[b']? = some false) ∧ restP fl b' = restP fl b ∧ mixP q l b' = mixP q l b ∧ fillRoom W (fl.take b') room = fillRoom W (fl.take b) room ∧ b ≤ b'
  | 0, b, h => ⟨b, by omega, fun h2 => by omega, rfl, rfl, rfl, Nat.le_refl _⟩
  | d + 1, b, h => by
    have hb : b < fl.length := by omega
    cases hc : fl[b] with
    | false => exact ⟨b, by omega, fun _ => by rw [List.getElem?_eq_getElem hb, hc], rfl, rfl, rfl, Nat.le_refl _⟩
    | true =>
      have ht : fl[b]? = some true := by rw [List.getElem?_eq_getElem hb, hc]
      obtain ⟨b', g1, g2, g3, g4, g5, g6⟩ := adv (W := W) (room := room) hl hq hf hk d (b + 1) (by omega)
      refine ⟨b', g1, g2, g3.trans (rest_true ht), g4.trans (mix_same (by omega) (by omega) (hk b (by omega) ht)), g5.trans ?_, by omega⟩
      rw [take_snoc ht, fillRoom_snoc, if_pos rfl]

set_option maxHeartbeats 8000000 in
theorem Spread_use {W w : World} {S : List Own} {Φ : PW} [Stable Φ] {p : Option Addr} {cap : Nat} {l : List Int} (n : Int) [hΦ : Has Φ (fun M w => Sl M w p l)] (c : Ctx W w S Φ) {K : Ending → World → Prop}
    (h0 : ¬ (1 ≤ n ∧ n ≤ 8 ∧ rightZ l 8 = true) → ∀ w', Ctx W w' S Φ → K (.returned (.tuple #[.slice none 0 0, .int .i64 1])) w')
    (h1 : ∀ ord p' c' w', 1 ≤ n → n ≤ 8 → rightZ l 8 = true → OrdOf l n.toNat ord → 16 ≤ c' → c' ≤ maxLen → Ctx W w' S (fun M w => Φ M w ∧ Sl M w p' (spreadG l n.toNat ord)) → K (.returned (.tuple #[.slice p' 16 c', .int .i64 0])) w') :
    Calls Tryd.prog F.place_Spread #[.slice p l.length cap, .int .i64 n] w K := by
  refine (Bplace_Spread_run p l.length cap n (J := fun u w' => K (.returned u) w') (R := S) c ?_).mono fun e w' ⟨v, he, hj⟩ => by rw [he]; exact hj
  clear c
  refine Br.intro (fun hn => fun w G cx => h0 (fun h => by have := of_decide_eq_true hn; omega) w cx.left) (fun hn1 => Br.intro (fun hn => fun w G cx => h0 (fun h => by have := of_decide_eq_true hn; omega) w cx.left) (fun hn2 => ?_))
  have hn1 := of_decide_eq_false hn1
  have hn2 := of_decide_eq_false hn2
  refine fun w G cx => (RightZ_in (l := l) (n := 8)).toB cx (Br.intro (fun hr => fun w G cx => h0 (fun h => by rw [h.2.2] at hr; cases hr) w cx.left) (fun hr => ?_))
  clear cx
  have hr : rightZ l 8 = true := by simpa using hr
  obtain ⟨_, _, hlen, hbd⟩ := rightZ_iff.1 hr
  obtain ⟨N, rfl⟩ : ∃ N : Nat, n = N := ⟨n.toNat, by omega⟩
  have hN1 : 1 ≤ N := by omega
  have hN8 : N ≤ 8 := by omega
  obtain ⟨D, hD⟩ : ∃ D, 16 / N = D := ⟨_, rfl⟩
  have hD16 : D ≤ 16 := by rw [← hD]; exact Nat.div_le_self _ _
  have hP : PlaceOf l := ⟨hlen, fun x hx => (hbd x hx).1⟩
  refine exI_mk (fun op on oc iI R' Φ' m => ∃ i : Nat, iI = i ∧ i ≤ N ∧ on = (rangeZ i).length ∧ R' = bufZ op oc (rangeZ i) :: S ∧ Φ' = Φ ∧ m = N - i) ⟨⟨bufZ none 0 [] :: S, Φ, _, inferInstance, fun w G cx => cx.nobuf 3 1, 0, rfl, Nat.zero_le _, rfl, rfl, rfl, rfl⟩, ?_⟩
  rintro op on oc iI R1 Φ1 m _ ⟨i, rfl, hi, rfl, rfl, rfl, rfl⟩
  refine Br.intro (fun hlt => fun kb w G cx => ?_) (fun hge => fun w G cx => ?_)
  · have hlt : i < N := by have := of_decide_eq_true hlt; omega
    obtain ⟨p', c', w', hrun, cx'⟩ := pushZ (by rw [rangeZ_len]; omega) cx
    rw [← rangeZ_succ] at hrun cx'
    exact ⟨p', _, c', w', hrun, _, Φ1, inferInstance, cx', by unfold I64; omega, _, Φ1, N - (i + 1), inferInstance, fun w G cx => cx, ⟨i + 1, by omega, hlt, rfl, rfl, rfl, rfl⟩, by omega⟩
  have hge : N = i := by have := of_decide_eq_false hge; omega
  subst hge
  refine (Shares_in (Φ := Φ1) (p := p) (cap := cap) (l := l) (by omega) hbd).use cx fun w cx => ⟨(shareP l 0 : Int), (shareP l 1 : Int), (shareP l 2 : Int), (shareP l 3 : Int), (shareP l 4 : Int), (shareP l 5 : Int), (shareP l 6 : Int), (shareP l 7 : Int), rfl, bufZ op oc (rangeZ N) :: S, Φ1, inferInstance, cx, fun k54 w G2 cx => ⟨cx.can 0 rfl (by simp), fun w' hw' => ?_⟩⟩
  have cx3 : Ctx W w' (.blk k54 ((shareL l).map intv) 102 :: (bufZ op oc (rangeZ N) :: S ++ G2)) Φ1 := cx.puts 0 hw' rfl
  obtain ⟨cx4, hs⟩ := cx3.freezeBlk (α := Int) (l := shareL l) (ints_elems _ fun x hx => by
    obtain ⟨j, _, rfl⟩ := List.mem_map.1 hx
    have := share_le l j
    unfold I64; omega)
  have stP : Stable (fun M w => Φ1 M w ∧ Sl M w (some ⟨k54, 0, none⟩) (shareL l)) := inferInstance
  refine ⟨bufZ op oc (rangeZ N) :: S, fun M w => Φ1 M w ∧ Sl M w (some ⟨k54, 0, none⟩) (shareL l), stP, cx4.add hs, ?_⟩
  clear cx cx3 cx4 hs hw'
  have hcmp : CmpZ (fun M w => Φ1 M w ∧ Sl M w (some ⟨k54, 0, none⟩) (shareL l)) F.place_Spread_1 #[.pointer (some ⟨k54, 0, none⟩)] (cmpS l) (fun x => 0 ≤ x ∧ x < 8) := by
    refine ⟨by kernel_rfl, fun x y hx hy => gives_in (Bplace_Spread_1_run x y k54 0) fun W R => fun w G cx => ?_⟩
    have hl8 : (shareL l).length = 8 := rfl
    have s1 := share_le l x.toNat
    have s2 := share_le l y.toNat
    have e1 := sl_int cx.phi.2 (i := y.toNat) (by omega)
    have e2 := sl_int cx.phi.2 (i := x.toNat) (by omega)
    rw [shareL_at] at e1 e2
    exact ⟨by omega, _, e1, by omega, _, e2, by unfold I64; omega, fun w G cx => ⟨rfl, cx.left⟩⟩
  refine fun w G3 cx => SortZ_use (cmpS_ord l) (fun x y h => by unfold leZ cmpS at *; omega) hcmp (rangeZ N) (fun e he => ?_) cx rfl (by rw [rangeZ_len]; omega) fun x' w' hp ha cx => ?_
  · obtain ⟨j, hj, rfl⟩ := List.mem_map.1 he
    have := List.mem_range.1 hj
    omega
  obtain ⟨hord, hxe⟩ := ord_of hp ha
  obtain ⟨O, hO⟩ : ∃ O, x'.map Int.toNat = O := ⟨_, rfl⟩
  rw [hO] at hord hxe
  have hOl := hord.len
  have hxl : x'.length = N := by rw [hxe, List.length_map, hOl]
  obtain ⟨g, rfl⟩ := z_ptr cx (by omega)
  refine ⟨rfl, bufZ (some ⟨g, 0, none⟩) oc x' :: S, _, stP, cx, fun k66 => ?_⟩
  clear cx
  rw [rangeZ_len]
  refine exI_mk (fun iI R' Φ' m => ∃ i : Nat, iI = i ∧ i ≤ N ∧ R' = .blk k66 (cells8 fun w => if w ∈ O.take i then (evenRoom N O w : Int) else 0) 102 :: bufZ (some ⟨g, 0, none⟩) oc x' :: S ∧ Φ' = (fun M w => Φ1 M w ∧ Sl M w (some ⟨k54, 0, none⟩) (shareL l)) ∧ m = N - i) ⟨⟨_, _, _, stP, fun w G cx => cx, 0, rfl, Nat.zero_le _, by rw [List.take_zero]; rfl, rfl, rfl⟩, ?_⟩
  rintro iI R2 Φ2 m _ ⟨i, rfl, hi, rfl, rfl, rfl⟩
  refine Br.intro (fun hlt => ?_) (fun hge => ?_)
  · have hlt : i < N := by have := of_decide_eq_true hlt; omega
    have hiO : i < O.length := by omega
    obtain ⟨v, hv⟩ : ∃ v, O[i] = v := ⟨_, rfl⟩
    have hv8 : v < N := by rw [← hv]; exact hord.mem.1 (List.getElem_mem hiO)
    have hxi : x'[i]? = some (v : Int) := by
      rw [hxe, List.getElem?_map, List.getElem?_eq_getElem hiO, hv]; rfl
    have hnew : ∀ w, w ∈ O.take (i + 1) ↔ w = v ∨ w ∈ O.take i := fun w => by
      rw [List.take_succ_eq_append_getElem hiO, List.mem_append, hv, List.mem_singleton]
      exact Or.comm
    have hev : evenRoom N O v = D + if i < 16 % N then 1 else 0 := by
      unfold evenRoom
      rw [hD]
      have := nodup_take (r := 16 % N) hord.nodup hiO
      rw [hv] at this
      by_cases hc : i < 16 % N
      · rw [if_pos (this.2 hc), if_pos hc]
      · rw [if_neg (fun h => hc (this.1 h)), if_neg hc]
    refine ⟨by omega, ptrK_intro g 0 rfl fun w G cx => ⟨(v : Int), cx.bufGet 1 rfl rfl (by rw [Nat.zero_add, Int.toNat_natCast, List.getElem?_map, hxi]; rfl), by omega, by rw [tdivN, hD]; unfold I64; omega, by omega, fun w G cx => ⟨cx.can 0 rfl (by rw [cells8_len]; omega), fun w' hw' => ?_⟩⟩⟩
    rw [Nat.zero_add, Int.toNat_natCast, tdivN, hD] at hw'
    have cx1 := cx.put 0 hw' rfl
    rw [cells8_set _ (by omega)] at cx1
    have cx1 : Ctx W w' (.blk k66 (cells8 fun j => if j = v then (D : Int) else if j ∈ O.take i then (evenRoom N O j : Int) else 0) 102 :: bufZ (some ⟨g, 0, none⟩) oc x' :: S ++ G) (fun M w => Φ1 M w ∧ Sl M w (some ⟨k54, 0, none⟩) (shareL l)) := cx1
    refine ⟨_, _, stP, cx1, by omega, Br.intro (fun hb => ?_) (fun hb => ?_)⟩
    · have hb : i < 16 % N := by have := of_decide_eq_true hb; rw [tmodN] at this; omega
      clear cx1 cx hw'
      refine ⟨by omega, fun w G cx => ⟨(D : Int), cx.get 0 rfl (by rw [Nat.zero_add, Int.toNat_natCast]; show (cells8 _)[v]? = _; rw [cells8_at _ (by omega), if_pos rfl]), by unfold I64; omega, by omega, fun w G cx => ⟨cx.can 0 rfl (by show 0 + _ + 1 ≤ (cells8 _).length; rw [cells8_len]; omega), fun w' hw' => ?_⟩⟩⟩
      rw [Nat.zero_add, Int.toNat_natCast] at hw'
      have cx2 := cx.put 0 hw' rfl
      rw [cells8_set _ (by omega)] at cx2
      have e : (cells8 fun j => if j = v then ((D : Int) + 1) else if j = v then (D : Int) else if j ∈ O.take i then (evenRoom N O j : Int) else 0) = cells8 fun w => if w ∈ O.take (i + 1) then (evenRoom N O w : Int) else 0 := cells8_congr fun j hj => by
        by_cases hjv : j = v
        · rw [if_pos hjv, if_pos ((hnew j).2 (.inl hjv)), hjv, hev, if_pos hb]; rfl
        · rw [if_neg hjv, if_neg hjv]
          by_cases hm : j ∈ O.take i
          · rw [if_pos hm, if_pos ((hnew j).2 (.inr hm))]
          · rw [if_neg hm, if_neg (fun h => ((hnew j).1 h).elim hjv hm)]
      have cx3 : Ctx W w' (.blk k66 (cells8 fun w => if w ∈ O.take (i + 1) then (evenRoom N O w : Int) else 0) 102 :: bufZ (some ⟨g, 0, none⟩) oc x' :: S ++ G) (fun M w => Φ1 M w ∧ Sl M w (some ⟨k54, 0, none⟩) (shareL l)) := by
        rw [← e]; exact cx2
      exact ⟨_, _, stP, cx3, by unfold I64; omega, _, _, N - (i + 1), stP, fun w G cx => cx, ⟨i + 1, by omega, hlt, rfl, rfl, rfl⟩, by omega⟩
    · have hb : ¬ i < 16 % N := by have := of_decide_eq_false hb; rw [tmodN] at this; omega
      have e : (cells8 fun j => if j = v then (D : Int) else if j ∈ O.take i then (evenRoom N O j : Int) else 0) = cells8 fun w => if w ∈ O.take (i + 1) then (evenRoom N O w : Int) else 0 := cells8_congr fun j hj => by
        by_cases hjv : j = v
        · rw [if_pos hjv, if_pos ((hnew j).2 (.inl hjv)), hjv, hev, if_neg hb]; rfl
        · rw [if_neg hjv]
          by_cases hm : j ∈ O.take i
          · rw [if_pos hm, if_pos ((hnew j).2 (.inr hm))]
          · rw [if_neg hm, if_neg (fun h => ((hnew j).1 h).elim hjv hm)]
      exact ⟨by unfold I64; omega, .blk k66 (cells8 fun w => if w ∈ O.take (i + 1) then (evenRoom N O w : Int) else 0) 102 :: bufZ (some ⟨g, 0, none⟩) oc x' :: S, _, N - (i + 1), stP, fun w G cx => by rw [← e]; exact cx, ⟨i + 1, by omega, hlt, rfl, rfl, rfl⟩, by omega⟩
  have hge : N = i := by have := of_decide_eq_false hge; omega
  subst hge
  have hOt : O.take N = O := List.take_of_length_le (by omega)
  rw [hOt]
  have earr : (cells8 fun w => if w ∈ O then (evenRoom N O w : Int) else 0) = arrR N (evenRoom N O) := cells8_congr fun j hj => by
    by_cases hj2 : j < N
    · rw [if_pos (hord.mem.2 hj2), if_pos hj2]
    · rw [if_neg (fun h => hj2 (hord.mem.1 h)), if_neg hj2]
  rw [earr]
  refine fun w G cx => (CloneZ_in (Φ := fun M w => Φ1 M w ∧ Sl M w (some ⟨k54, 0, none⟩) (shareL l)) (p := p) (cap := cap) (fun M w h => hΦ.go M w h.1) (by omega)).use cx fun p1 cap1 ds w cx => ?_
  have hds := elems_intv cx.phi.2
  subst hds
  have cx5 : Ctx W w (bufZ p1 cap1 l :: .blk k66 (arrR N (evenRoom N O)) 102 :: S ++ G) Φ1 := (cx.sub (List.Sublist.cons_cons _ (List.Sublist.cons_cons _ (List.sublist_cons_self _ _)))).weak fun M w h => h.1.1
  obtain ⟨g1, rfl⟩ := z_ptr cx5 (by omega)
  refine ⟨some ⟨g1, 0, none⟩, _, cap1, rfl, _, Φ1, inferInstance, cx5, ?_⟩
  clear cx cx5
  obtain ⟨fl, hfl⟩ : ∃ fl, (keepG N l (evenRoom N O)).1 = fl := ⟨_, rfl⟩
  have hfll : fl.length = 16 := by rw [← hfl, keepG_len, hlen]
  refine exI_mk (fun op on oc iI R' Φ' m => ∃ i : Nat, iI = i ∧ i ≤ 16 ∧ on = (restP fl i).length ∧ R' = bufZ op oc (restP fl i) :: bufZ (some ⟨g1, 0, none⟩) cap1 l :: .blk k66 (arrR N (keepG N (l.take i) (evenRoom N O)).2) 102 :: S ∧ Φ' = Φ1 ∧ m = 16 - i ∧ (0 < (restP fl i).length → ∃ g2, op = some ⟨g2, 0, none⟩)) ⟨⟨_, Φ1, _, inferInstance, fun w G cx => cx.nobuf 3 1, 0, rfl, Nat.zero_le _, rfl, rfl, rfl, rfl, fun h => absurd h (Nat.lt_irrefl 0)⟩, ?_⟩
  rintro op on oc iI R3 Φ3 m _ ⟨i, rfl, hi, rfl, rfl, rfl, rfl, hpt⟩
  have hrl := idxP_len (fun j => decide (fl[j]? = some false)) i
  have hrl : (restP fl i).length ≤ i := hrl
  refine Br.intro (fun hlt => ?_) (fun hge => ?_)
  · have hlt : i < 16 := by have := of_decide_eq_true hlt; omega
    have hil : i < l.length := by omega
    obtain ⟨x0, x8⟩ := hbd _ (List.getElem_mem hil)
    have hflag := keepG_flag N (evenRoom N O) hil
    rw [hfl] at hflag
    have hsn := keepG_snoc N (l.take i) (evenRoom N O) l[i]
    rw [← List.take_succ_eq_append_getElem hil] at hsn
    obtain ⟨rm, hrm⟩ : ∃ rm, (keepG N (l.take i) (evenRoom N O)).2 = rm := ⟨_, rfl⟩
    rw [hrm] at hsn hflag ⊢
    obtain ⟨x, hx⟩ : ∃ x : Nat, l[i] = (x : Int) := ⟨l[i].toNat, by omega⟩
    refine ⟨by omega, ptrK_intro g1 0 rfl fun w G cx => ⟨(x : Int), cx.bufGet 1 rfl rfl (by rw [Nat.zero_add, Int.toNat_natCast, List.getElem?_map, List.getElem?_eq_getElem hil, hx]; rfl), fun w G cx => ⟨fun _ => by omega, (rm x : Int), fun h => cx.get 2 rfl (by rw [Nat.zero_add, Int.toNat_natCast]; exact arrR_at rm (by have := of_decide_eq_true h; omega) hN8), Br.intro (fun hb => ?_) (fun hb => fun kb w G cx => ?_)⟩⟩⟩
    · clear cx
      rw [Bool.and_eq_true] at hb
      have b1 : x < N := by have := of_decide_eq_true hb.1; omega
      have b2 : 0 < rm x := by have := of_decide_eq_true hb.2; omega
      rw [hx, Int.toNat_natCast, decide_eq_true ⟨by omega, b2⟩] at hflag
      rw [hx, Int.toNat_natCast, if_pos ⟨by omega, b2⟩] at hsn
      have hrs : restP fl (i + 1) = restP fl i := rest_true hflag
      have hrb : rm x ≤ 1000000 := by
        have := keepG_room N (l.take i) (evenRoom N O) (fun y hy => (hbd y (List.mem_of_mem_take hy)).1) x b1
        rw [hrm] at this
        unfold evenRoom at this
        rw [hD] at this
        split at this <;> omega
      refine ⟨by omega, fun w G cx => ⟨(rm x : Int), cx.get 2 rfl (by rw [Nat.zero_add, Int.toNat_natCast]; exact arrR_at rm b1 hN8), by unfold I64; omega, by omega, fun w G cx => ⟨cx.can 2 rfl (by show 0 + _ + 1 ≤ (cells8 _).length; rw [cells8_len]; omega), fun w' hw' => ?_⟩⟩⟩
      rw [Nat.zero_add, Int.toNat_natCast] at hw'
      have cx2 := cx.put 2 hw' rfl
      rw [arrR_dec rm b1 hN8 b2] at cx2
      have cx3 : Ctx W w' (bufZ op oc (restP fl (i + 1)) :: bufZ (some ⟨g1, 0, none⟩) cap1 l :: .blk k66 (arrR N (keepG N (l.take (i + 1)) (evenRoom N O)).2) 102 :: S ++ G) Φ3 := by
        rw [hrs, hsn]
        exact cx2
      exact ⟨_, Φ3, inferInstance, cx3, by unfold I64; omega, _, Φ3, 16 - (i + 1), inferInstance, fun w G cx => cx, ⟨i + 1, by omega, by omega, by rw [hrs], rfl, rfl, rfl, by rw [hrs]; exact hpt⟩, by omega⟩
    · rw [Bool.and_eq_false_iff] at hb
      have hno : ¬ ((x : Int) < N ∧ 0 < rm x) := fun h => by rcases hb with hb | hb <;> have := of_decide_eq_false hb <;> omega
      rw [hx, Int.toNat_natCast, decide_eq_false hno] at hflag
      rw [hx, Int.toNat_natCast, if_neg hno] at hsn
      have hrs : restP fl (i + 1) = restP fl i ++ [(i : Int)] := rest_false hflag
      obtain ⟨p', c', w', hrun, cx'⟩ := pushZ (by omega) cx
      rw [← hrs] at hrun cx'
      have cx3 : Ctx W w' (bufZ p' c' (restP fl (i + 1)) :: bufZ (some ⟨g1, 0, none⟩) cap1 l :: .blk k66 (arrR N (keepG N (l.take (i + 1)) (evenRoom N O)).2) 102 :: S ++ G) Φ3 := by
        rw [hsn]
        exact cx'
      exact ⟨p', _, c', w', hrun, _, Φ3, inferInstance, cx3, by unfold I64; omega, _, Φ3, 16 - (i + 1), inferInstance, fun w G cx => cx, ⟨i + 1, by omega, by omega, rfl, rfl, rfl, rfl, fun h => z_ptr cx3 h⟩, by omega⟩
  have hge : i = 16 := by have := of_decide_eq_false hge; omega
  subst hge
  have htl : l.take 16 = l := List.take_of_length_le (by omega)
  rw [htl]
  have hsum := spread_room hP hord hN1
  have hqe0 : spreadG l N O = fillG N l fl (keepG N l (evenRoom N O)).2 := by unfold spreadG; rw [hfl]
  have hql : (spreadG l N O).length = 16 := spread_len hP
  have hqbd := spread_bd hP hord hN1
  rw [hfl] at hsum
  obtain ⟨rmF, hrmF⟩ : ∃ rmF, (keepG N l (evenRoom N O)).2 = rmF := ⟨_, rfl⟩
  rw [hrmF] at hsum hqe0 ⊢
  have hll : fl.length = l.length := by omega
  have hkq : ∀ j (hj : j < l.length), fl[j]? = some true → (spreadG l N O)[j]? = some l[j] := fun j hj h => by
    rw [hqe0]
    exact (fillG_at N l fl rmF hll hsum j hj).1 h
  obtain ⟨b0, a1, a2, a3, a4, a5, _⟩ := adv (W := N) (room := rmF) hlen hql hfll hkq 16 0 rfl
  refine exI_mk (fun iI R' Φ' m => ∃ b : Nat, iI = ((restP fl b).length : Int) ∧ b ≤ 16 ∧ (b < 16 → fl[b]? = some false) ∧ R' = bufZ op oc (restP fl 16) :: bufZ (some ⟨g1, 0, none⟩) cap1 (mixP (spreadG l N O) l b) :: .blk k66 (arrR N (fillRoom N (fl.take b) rmF)) 102 :: S ∧ Φ' = Φ3 ∧ m = 16 - b)
    ⟨⟨_, Φ3, _, inferInstance, fun w G cx => cx, b0, by rw [a3]; rfl, a1, a2, by rw [a4, a5]; rfl, rfl, rfl⟩, ?_⟩
  rintro iI R4 Φ4 m _ ⟨b, rfl, hb16, hbf, rfl, rfl, rfl⟩
  have hml : (mixP (spreadG l N O) l b).length = 16 := by
    unfold mixP
    rw [List.length_append, List.length_take, List.length_drop]; omega
  refine Br.intro (fun hlt => ?_) (fun hge => fun w G cx => ?_)
  · have hlt := of_decide_eq_true hlt
    have hb : b < 16 := by
      rcases Nat.lt_or_ge b 16 with h | h
      · exact h
      · rw [show b = 16 by omega] at hlt
        omega
    have hf := hbf hb
    have hra := rest_at hb hf
    obtain ⟨rm, hrm⟩ : ∃ rm, fillRoom N (fl.take b) rmF = rm := ⟨_, rfl⟩
    have hrs := fillRoom_sum fl rmF hsum b (by omega)
    rw [hrm] at hrs ⊢
    have hmis : ∃ c, missing (fl.drop b) = c + 1 := by
      have hbl : b < fl.length := by omega
      rw [List.drop_eq_getElem_cons hbl]
      rw [List.getElem?_eq_getElem hbl] at hf
      rw [Option.some.inj hf]
      exact ⟨missing (fl.drop (b + 1)), by simp [missing]⟩
    obtain ⟨c0, hc0⟩ := hmis
    obtain ⟨m1, m2, m3⟩ := room_step (room := rm) (W := N) (m := c0) (by rw [hrs, hc0])
    have hqb : (spreadG l N O)[b]? = some ((firstG rm N 0 : Nat) : Int) := by rw [hqe0, fillG_false N l fl rmF b hll hf, hrm]
    have hbef := firstG_before rm N 0
    obtain ⟨v, hv⟩ : ∃ v, firstG rm N 0 = v := ⟨_, rfl⟩
    rw [hv] at m1 m2 m3 hqb hbef
    have hnext : fillRoom N (fl.take (b + 1)) rmF = fun i => if i = v then rm i - 1 else rm i := by
      rw [take_snoc hf, fillRoom_snoc, hrm, hv]
      rfl
    have hrmb : rm v ≤ 1000000 := by
      have := sumF_set (f := rm) (g := fun i => if i = v then 0 else rm i) (w := v) (n := N) m1 fun i hi => if_neg hi
      simp only [if_true] at this
      have h16 : missing (fl.drop b) ≤ 16 := by
        unfold missing
        have := List.count_le_length (a := false) (l := fl.drop b)
        rw [List.length_drop] at this
        omega
      omega
    obtain ⟨b', d1, d2, d3, d4, d5, d6⟩ := adv (W := N) (room := rmF) hlen hql hfll hkq (16 - (b + 1)) (b + 1) (by omega)
    have hrlen : (restP fl (b + 1)).length = (restP fl b).length + 1 := by rw [rest_false hf, List.length_append]; rfl
    have hpos : 0 < (restP fl 16).length := by omega
    obtain ⟨g2, rfl⟩ := hpt hpos
    refine ⟨by omega, ptrK_intro g2 0 rfl fun w G cx => ⟨(b : Int), cx.bufGet 0 rfl rfl (by rw [Nat.zero_add, Int.toNat_natCast, List.getElem?_map, hra]; rfl), Nat.le_refl _, fun w G cx => ?_⟩⟩
    have cxp : Ctx W w (.blk k66 (cells8 fun w => if w < N then (rm w : Int) else 0) 102 :: (bufZ (some ⟨g2, 0, none⟩) oc (restP fl 16) :: bufZ (some ⟨g1, 0, none⟩) cap1 (mixP (spreadG l N O) l b) :: (S ++ G))) Φ4 := cx.perm (List.perm_middle (l₁ := [bufZ (some ⟨g2, 0, none⟩) oc (restP fl 16), bufZ (some ⟨g1, 0, none⟩) cap1 (mixP (spreadG l N O) l b)]))
    rw [show subPtr (some (Addr.mk k66 0 none)) 1 0 8 = some ⟨k66, 0, none⟩ from rfl]
    refine IndexR_use (m := v) (by omega) (by rw [if_pos m1]; omega) (fun i hi => by
      have := hbef i (Nat.zero_le _) hi
      split <;> omega) cxp fun w cx => ⟨(v : Int), rfl, bufZ (some ⟨g2, 0, none⟩) oc (restP fl 16) :: bufZ (some ⟨g1, 0, none⟩) cap1 (mixP (spreadG l N O) l b) :: .blk k66 (arrR N rm) 102 :: S, Φ4, inferInstance, cx.perm (List.perm_middle (l₁ := [bufZ (some ⟨g2, 0, none⟩) oc (restP fl 16), bufZ (some ⟨g1, 0, none⟩) cap1 (mixP (spreadG l N O) l b)])).symm, by omega, ptrK_intro g1 0 rfl fun w G cx => ⟨by rw [Nat.zero_add, Int.toNat_natCast]; exact z_can cx.swap (by omega), fun w' hw' => ?_⟩⟩
    rw [Nat.zero_add, Int.toNat_natCast] at hw'
    have cx6 := (z_put cx.swap (by omega) hw').swap
    rw [mix_set (by omega) (by omega) hqb] at cx6
    refine ⟨bufZ (some ⟨g2, 0, none⟩) oc (restP fl 16) :: bufZ (some ⟨g1, 0, none⟩) cap1 (mixP (spreadG l N O) l (b + 1)) :: .blk k66 (arrR N rm) 102 :: S, Φ4, inferInstance, cx6, by omega, fun w G cx => ⟨(rm v : Int), cx.get 2 rfl (by rw [Nat.zero_add, Int.toNat_natCast]; exact arrR_at rm m1 hN8), by unfold I64; omega, by omega, fun w G cx => ⟨cx.can 2 rfl (by show 0 + _ + 1 ≤ (cells8 _).length; rw [cells8_len]; omega), fun w2 hw2 => ?_⟩⟩⟩
    rw [Nat.zero_add, Int.toNat_natCast] at hw2
    have cx7 := cx.put 2 hw2 rfl
    rw [arrR_dec rm m1 hN8 m2] at cx7
    have cx8 : Ctx W w2 (bufZ (some ⟨g2, 0, none⟩) oc (restP fl 16) :: bufZ (some ⟨g1, 0, none⟩) cap1 (mixP (spreadG l N O) l b') :: .blk k66 (arrR N (fillRoom N (fl.take b') rmF)) 102 :: S ++ G) Φ4 := by
      rw [d4, d5, hnext]
      exact cx7
    exact ⟨_, Φ4, inferInstance, cx8, by unfold I64; omega, _, Φ4, 16 - b', inferInstance, fun w G cx => cx, ⟨b', by rw [d3, hrlen]; rfl, d1, d2, rfl, rfl, rfl⟩, by omega⟩
  · have hge := of_decide_eq_false hge
    have hb : b = 16 := by
      rcases Nat.lt_or_ge b 16 with h | h
      · have hra := rest_at h (hbf h)
        have := (List.getElem?_eq_some_iff.1 hra).1
        omega
      · omega
    subst hb
    have hmq : mixP (spreadG l N O) l 16 = spreadG l N O := by
      unfold mixP
      rw [List.take_of_length_le (by omega), List.drop_eq_nil_of_le (by omega), List.append_nil]
    rw [hmq] at cx
    have cx2 : Ctx W w (bufZ (some ⟨g1, 0, none⟩) cap1 (spreadG l N O) :: S) Φ4 := (cx.left.drop1).sub (List.Sublist.cons_cons _ (List.sublist_cons_self _ _))
    obtain ⟨_, k1, k2⟩ := cx2.bufLen 0 rfl
    obtain ⟨cx3, hs, _⟩ := Ctx.freeze (α := Int) (l := spreadG l N O) cx2 (ints_elems _ fun x hx => by have := hqbd x hx; unfold I64; omega)
    rw [hlen]
    exact h1 O (some ⟨g1, 0, none⟩) cap1 w (by omega) (by omega) hr (by rw [Int.toNat_natCast]; exact hord) (by omega) k2 (by rw [Int.toNat_natCast]; exact cx3.add hs)

end Go.Proofs.YtbkpfhhhbhaecaaDoor
end

/-
  The law PlaceSpread, walked.
-/
section
set_option linter.unusedVariables false
set_option linter.unusedSimpArgs false
namespace Go.Proofs.YtbkpfhhhbhaecaaDoor
open Go.Vc


section
variable {Φ : PW} {p q : Option Addr} {cap cap2 : Nat} {l a b : List Int} {W w : World} {R G : List Own}

theorem Spread_to [Stable Φ] {n : Int} [hΦ : Has Φ (fun M w => Sl M w p l)] (c : Ctx W w (R ++ G) Φ) {K : Option Addr → Nat → Nat → Int → List Own → PW → Prop}
    (h0 : ¬ (1 ≤ n ∧ n ≤ 8 ∧ rightZ l 8 = true) → K none 0 0 1 R Φ)
    (h1 : ∀ ord p' c', 1 ≤ n → n ≤ 8 → rightZ l 8 = true → OrdOf l n.toNat ord → (spreadG l n.toNat ord).length ≤ c' → c' ≤ maxLen → Stable (fun M w => Φ M w ∧ Sl M w p' (spreadG l n.toNat ord)) → K p' (spreadG l n.toNat ord).length c' 0 R (fun M w => Φ M w ∧ Sl M w p' (spreadG l n.toNat ord))) :
    Calls Tryd.prog F.place_Spread #[.slice p l.length cap, .int .i64 n] w fun e w' => ∃ p' k c' m, e = .returned (.tuple #[.slice p' k c', .int .i64 m]) ∧ ∃ R' Φ', Stable Φ' ∧ Ctx W w' (R' ++ G) Φ' ∧ K p' k c' m R' Φ' := by
  refine Spread_use n c (fun h w' c => ⟨none, 0, 0, 1, rfl, R, Φ, inferInstance, c, h0 h⟩) fun ord p' c' w' g1 g2 g3 g4 g5 g6 c => ?_
  have hl : (spreadG l n.toNat ord).length = 16 := by
    obtain ⟨_, _, hlen, hbd⟩ := rightZ_iff.1 g3
    exact spread_len ⟨hlen, fun x hx => (hbd x hx).1⟩
  rw [← hl]
  exact ⟨p', _, c', 0, rfl, R, _, inferInstance, c, h1 ord p' c' g1 g2 g3 g4 (by omega) g6 inferInstance⟩

end
end Go.Proofs.YtbkpfhhhbhaecaaDoor
end

/-
  Layings of the kit's shelf at this seat's numbers (printed by the kit's own tools).
-/
section
set_option linter.unusedVariables false
namespace Go.Proofs
open Go.Shelf

def Tryd.lays169_ren : Go.Shelf.Ren := ⟨fun | 169 => 92 | n => n, fun | 70 => 136 | 9 => 9 | 0 => 0 | 72 => 138 | 37 => 109 | 127 => 160 | 3 => 3 | 5 => 5 | n => n, fun | n => n⟩
theorem Tryd.lays169 : Go.Proofs.Lays.n169 Tryd.prog Tryd.lays169_ren := {
  mixed := by kernel_rfl
  f169 := Tryd.func92.trans (congrArg some (by kernel_rfl))
  t0 := Tryd.underlying0
  a0 := Tryd.isAgg0
  z0 := Tryd.sizeOf0
  v0 := Tryd.zeroValue0
  t3 := Tryd.underlying3
  a3 := Tryd.isAgg3
  z3 := Tryd.sizeOf3
  v3 := Tryd.zeroValue3
  t9 := Tryd.underlying9
  a9 := Tryd.isAgg9
  z9 := Tryd.sizeOf9
  v9 := Tryd.zeroValue9
  t37 := Tryd.underlying109
  a37 := Tryd.isAgg109
  z37 := Tryd.sizeOf109
  v37 := Tryd.zeroValue109
  t70 := Tryd.underlying136
  a70 := Tryd.isAgg136
  z70 := Tryd.sizeOf136
  v70 := Tryd.zeroValue136
  t72 := Tryd.underlying138
  a72 := Tryd.isAgg138
  z72 := Tryd.sizeOf138
  v72 := Tryd.zeroValue138
  t127 := Tryd.underlying160
  a127 := Tryd.isAgg160
  z127 := Tryd.sizeOf160
  v127 := Tryd.zeroValue160 }
theorem Tryd.Builder_Extra_169 : Builder.Extra Tryd.prog Tryd.lays169_ren := {
  sizeBuilder := by kernel_rfl
  liesBuilder := by kernel_rfl
  t5 := Tryd.underlying5
  a5 := Tryd.isAgg5
  z5 := Tryd.sizeOf5
  v5 := Tryd.zeroValue5
  infoByte := by kernel_rfl
  cellsByte := by kernel_rfl
  sizeByte := by kernel_rfl
  neB5 := by decide }
def Tryd.laysM171_ren : Go.Shelf.Ren := ⟨fun | 171 => 117 | 243 => 137 | 246 => 142 | 283 => 146 | 284 => 147 | 285 => 148 | 286 => 149 | 129 => 153 | 317 => 152 | 318 => 154 | 319 => 155 | 320 => 156 | 337 => 157 | 338 => 158 | n => n, fun | 3 => 3 | 9 => 9 | 2 => 2 | 4 => 4 | 171 => 181 | 0 => 0 | 53 => 182 | 37 => 109 | 5 => 5 | 173 => 185 | 212 => 189 | 51 => 190 | 20 => 20 | 213 => 191 | 46 => 176 | 232 => 194 | 233 => 195 | n => n, fun | 17 => 1 | 18 => 2 | 19 => 3 | n => n⟩
theorem Tryd.laysM171 : Go.Proofs.LaysM.n171 Tryd.prog Tryd.laysM171_ren := {
  mixed := by kernel_rfl
  f129 := Tryd.func153.trans (congrArg some (by kernel_rfl))
  f171 := Tryd.func117.trans (congrArg some (by kernel_rfl))
  f243 := Tryd.func137.trans (congrArg some (by kernel_rfl))
  f246 := Tryd.func142.trans (congrArg some (by kernel_rfl))
  f283 := Tryd.func146.trans (congrArg some (by kernel_rfl))
  f284 := Tryd.func147.trans (congrArg some (by kernel_rfl))
  f285 := Tryd.func148.trans (congrArg some (by kernel_rfl))
  f286 := Tryd.func149.trans (congrArg some (by kernel_rfl))
  f317 := Tryd.func152.trans (congrArg some (by kernel_rfl))
  f318 := Tryd.func154.trans (congrArg some (by kernel_rfl))
  f319 := Tryd.func155.trans (congrArg some (by kernel_rfl))
  f320 := Tryd.func156.trans (congrArg some (by kernel_rfl))
  f337 := Tryd.func157.trans (congrArg some (by kernel_rfl))
  f338 := Tryd.func158.trans (congrArg some (by kernel_rfl))
  t0 := Tryd.underlying0
  a0 := Tryd.isAgg0
  z0 := Tryd.sizeOf0
  v0 := Tryd.zeroValue0
  t2 := Tryd.underlying2
  a2 := Tryd.isAgg2
  z2 := Tryd.sizeOf2
  v2 := Tryd.zeroValue2
  t3 := Tryd.underlying3
  a3 := Tryd.isAgg3
  z3 := Tryd.sizeOf3
  v3 := Tryd.zeroValue3
  t4 := Tryd.underlying4
  a4 := Tryd.isAgg4
  z4 := Tryd.sizeOf4
  v4 := Tryd.zeroValue4
  t5 := Tryd.underlying5
  a5 := Tryd.isAgg5
  z5 := Tryd.sizeOf5
  v5 := Tryd.zeroValue5
  t9 := Tryd.underlying9
  a9 := Tryd.isAgg9
  z9 := Tryd.sizeOf9
  v9 := Tryd.zeroValue9
  t20 := Tryd.underlying20
  a20 := Tryd.isAgg20
  z20 := Tryd.sizeOf20
  v20 := Tryd.zeroValue20
  t37 := Tryd.underlying109
  a37 := Tryd.isAgg109
  z37 := Tryd.sizeOf109
  v37 := Tryd.zeroValue109
  t46 := Tryd.underlying176
  a46 := Tryd.isAgg176
  z46 := Tryd.sizeOf176
  v46 := Tryd.zeroValue176
  t51 := Tryd.underlying190
  a51 := Tryd.isAgg190
  z51 := Tryd.sizeOf190
  v51 := Tryd.zeroValue190
  t53 := Tryd.underlying182
  a53 := Tryd.isAgg182
  z53 := Tryd.sizeOf182
  v53 := Tryd.zeroValue182
  t171 := Tryd.underlying181
  a171 := Tryd.isAgg181
  z171 := Tryd.sizeOf181
  v171 := Tryd.zeroValue181
  t173 := Tryd.underlying185
  a173 := Tryd.isAgg185
  z173 := Tryd.sizeOf185
  v173 := Tryd.zeroValue185
  t212 := Tryd.underlying189
  a212 := Tryd.isAgg189
  z212 := Tryd.sizeOf189
  v212 := Tryd.zeroValue189
  t213 := Tryd.underlying191
  a213 := Tryd.isAgg191
  z213 := Tryd.sizeOf191
  t232 := Tryd.underlying194
  a232 := Tryd.isAgg194
  z232 := Tryd.sizeOf194
  v232 := Tryd.zeroValue194
  t233 := Tryd.underlying195
  a233 := Tryd.isAgg195
  z233 := Tryd.sizeOf195
  v233 := Tryd.zeroValue195
  g17 := by kernel_rfl
  g18 := by kernel_rfl
  g19 := by kernel_rfl
  i0 := by kernel_rfl
  i2 := by kernel_rfl
  i3 := by kernel_rfl
  i4 := by kernel_rfl
  i5 := by kernel_rfl
  i9 := by kernel_rfl
  i20 := by kernel_rfl
  i37 := by kernel_rfl
  i46 := by kernel_rfl
  i51 := by kernel_rfl
  i53 := by kernel_rfl
  i171 := by kernel_rfl
  i173 := by kernel_rfl
  i212 := by kernel_rfl
  i232 := by kernel_rfl
  i233 := by kernel_rfl
  m17 := by kernel_rfl
  m18 := by kernel_rfl
  m19 := by kernel_rfl }
def Tryd.lays171_ren : Go.Shelf.Ren := ⟨fun | 171 => 117 | 243 => 137 | 246 => 142 | 283 => 146 | 284 => 147 | 285 => 148 | 286 => 149 | 129 => 153 | 317 => 152 | 318 => 154 | 319 => 155 | 320 => 156 | 337 => 157 | 338 => 158 | n => n, fun | 3 => 3 | 9 => 9 | 2 => 2 | 4 => 4 | 171 => 181 | 0 => 0 | 53 => 182 | 37 => 109 | 5 => 5 | 173 => 185 | 212 => 189 | 51 => 190 | 20 => 20 | 213 => 191 | 46 => 176 | 232 => 194 | 233 => 195 | n => n, fun | 17 => 1 | 18 => 2 | 19 => 3 | n => n⟩
theorem Tryd.lays171 : Go.Proofs.Lays.n171 Tryd.prog Tryd.lays171_ren := {
  mixed := by kernel_rfl
  f129 := Tryd.func153.trans (congrArg some (by kernel_rfl))
  f171 := Tryd.func117.trans (congrArg some (by kernel_rfl))
  f243 := Tryd.func137.trans (congrArg some (by kernel_rfl))
  f246 := Tryd.func142.trans (congrArg some (by kernel_rfl))
  f283 := Tryd.func146.trans (congrArg some (by kernel_rfl))
  f284 := Tryd.func147.trans (congrArg some (by kernel_rfl))
  f285 := Tryd.func148.trans (congrArg some (by kernel_rfl))
  f286 := Tryd.func149.trans (congrArg some (by kernel_rfl))
  f317 := Tryd.func152.trans (congrArg some (by kernel_rfl))
  f318 := Tryd.func154.trans (congrArg some (by kernel_rfl))
  f319 := Tryd.func155.trans (congrArg some (by kernel_rfl))
  f320 := Tryd.func156.trans (congrArg some (by kernel_rfl))
  f337 := Tryd.func157.trans (congrArg some (by kernel_rfl))
  f338 := Tryd.func158.trans (congrArg some (by kernel_rfl))
  t0 := Tryd.underlying0
  a0 := Tryd.isAgg0
  z0 := Tryd.sizeOf0
  v0 := Tryd.zeroValue0
  t2 := Tryd.underlying2
  a2 := Tryd.isAgg2
  z2 := Tryd.sizeOf2
  v2 := Tryd.zeroValue2
  t3 := Tryd.underlying3
  a3 := Tryd.isAgg3
  z3 := Tryd.sizeOf3
  v3 := Tryd.zeroValue3
  t4 := Tryd.underlying4
  a4 := Tryd.isAgg4
  z4 := Tryd.sizeOf4
  v4 := Tryd.zeroValue4
  t5 := Tryd.underlying5
  a5 := Tryd.isAgg5
  z5 := Tryd.sizeOf5
  v5 := Tryd.zeroValue5
  t9 := Tryd.underlying9
  a9 := Tryd.isAgg9
  z9 := Tryd.sizeOf9
  v9 := Tryd.zeroValue9
  t20 := Tryd.underlying20
  a20 := Tryd.isAgg20
  z20 := Tryd.sizeOf20
  v20 := Tryd.zeroValue20
  t37 := Tryd.underlying109
  a37 := Tryd.isAgg109
  z37 := Tryd.sizeOf109
  v37 := Tryd.zeroValue109
  t46 := Tryd.underlying176
  a46 := Tryd.isAgg176
  z46 := Tryd.sizeOf176
  v46 := Tryd.zeroValue176
  t51 := Tryd.underlying190
  a51 := Tryd.isAgg190
  z51 := Tryd.sizeOf190
  v51 := Tryd.zeroValue190
  t53 := Tryd.underlying182
  a53 := Tryd.isAgg182
  z53 := Tryd.sizeOf182
  v53 := Tryd.zeroValue182
  t171 := Tryd.underlying181
  a171 := Tryd.isAgg181
  z171 := Tryd.sizeOf181
  v171 := Tryd.zeroValue181
  t173 := Tryd.underlying185
  a173 := Tryd.isAgg185
  z173 := Tryd.sizeOf185
  v173 := Tryd.zeroValue185
  t212 := Tryd.underlying189
  a212 := Tryd.isAgg189
  z212 := Tryd.sizeOf189
  v212 := Tryd.zeroValue189
  t213 := Tryd.underlying191
  a213 := Tryd.isAgg191
  z213 := Tryd.sizeOf191
  t232 := Tryd.underlying194
  a232 := Tryd.isAgg194
  z232 := Tryd.sizeOf194
  v232 := Tryd.zeroValue194
  t233 := Tryd.underlying195
  a233 := Tryd.isAgg195
  z233 := Tryd.sizeOf195
  v233 := Tryd.zeroValue195
  g17 := by kernel_rfl
  g18 := by kernel_rfl
  g19 := by kernel_rfl }

end Go.Proofs
end

/-
  The walks of strings.Builder, of the decimal form of ints, and of the encodings of ints and texts.
-/
section
set_option linter.unusedVariables false
set_option linter.unusedSimpArgs false
namespace Go.Proofs.YtbkpfhhhbhaecaaDoor
open Go.Vc


abbrev BdT (b : Nat) (l : List UInt8) (R : List Own) : Prop := Bd 138 5 b l R

theorem bd_info : ∃ j, Tryd.prog.info? 138 = some j ∧ j.size = 2 := by
  have h : (Tryd.prog.info? 138).map (·.size) = some 2 := by kernel_rfl
  exact Option.map_eq_some_iff.1 h

set_option maxHeartbeats 1000000 in
set_option maxRecDepth 100000 in
theorem copyCheck_used (b : Nat) (w : World) (h0 : w.cell? ⟨b, 0, none⟩ = some (.pointer (some ⟨b, 0, none⟩))) :
    Calls Tryd.prog 116 #[.pointer (some ⟨b, 0, none⟩)] w fun e w' => e = .returned (.tuple #[]) ∧ w' = w := by
  obtain ⟨j, hj, _⟩ := bd_info
  go_enter Tryd.func116, Tryd.ntmps116
  go_wp2
  rw [Lib.run_neq_ptr_same w _ Tryd.underlying136 hj]
  go_wp2
  go_end0
  exact ⟨rfl, rfl⟩

set_option maxHeartbeats 1000000 in
set_option maxRecDepth 100000 in
theorem copyCheck_fresh (b : Nat) (w : World) (h0 : w.cell? ⟨b, 0, none⟩ = some (.pointer none)) (hsh : w.shape? b = some (138, 2)) (hfz : w.frozen? ⟨b, 0, none⟩ = false) :
    Calls Tryd.prog 116 #[.pointer (some ⟨b, 0, none⟩)] w fun e w' => e = .returned (.tuple #[]) ∧ w' = w.setCell ⟨b, 0, none⟩ (.pointer (some ⟨b, 0, none⟩)) := by
  obtain ⟨j, hj, hjs⟩ := bd_info
  go_enter Tryd.func116, Tryd.ntmps116
  go_wp2
  rw [Lib.run_to_unsafe w ⟨b, 0, none⟩ Tryd.underlying136 Tryd.underlying174 hj (by rw [hjs]; decide) hsh (Nat.zero_lt_succ 1)]
  simp only [Result.andThen]
  rw [Oper.upon_value]
  go_wp2
  rw [run_callFunc_extern Tryd.func136 (by kernel_rfl) (by kernel_rfl) (by kernel_rfl) (e := Extern.AbiNoEscape.same) (by kernel_rfl)]
  rw [Lib.run_noEscape]
  simp only [Result.andThen]
  rw [Oper.upon_value]
  go_wp2
  rw [Lib.run_from_unsafe w ⟨b, 0, none⟩ Tryd.underlying174 Tryd.underlying136 hj hsh (by kernel_rfl)]
  simp only [Result.andThen]
  rw [Oper.upon_value]
  go_wp2
  go_end0
  exact ⟨rfl, rfl⟩

theorem copyCheck_use {W w : World} {S : List Own} {Φ : PW} [Stable Φ] {b : Nat} {pa v : Value} (hp : pa = .pointer none ∨ pa = .pointer (some ⟨b, 0, none⟩)) (c : Ctx W w (.blk b [pa, v] 138 :: S) Φ) {K : Ending → World → Prop}
    (hk : ∀ w', Ctx W w' (.blk b [.pointer (some ⟨b, 0, none⟩), v] 138 :: S) Φ → K (.returned (.tuple #[])) w') : Calls Tryd.prog F.strings_Builder_copyCheck #[.pointer (some ⟨b, 0, none⟩)] w K := by
  have hb : w.heap[b]? = some (.cells #[pa, v] 138 (0, 0)) := c.blk 0 rfl
  rcases hp with rfl | rfl
  · exact (copyCheck_fresh b w (c.get 0 rfl rfl) (by simp [World.shape?, hb]) (by simp [World.frozen?, hb])).mono fun e w' ⟨he, hw⟩ => by
      subst he
      exact hk w' (c.put 0 hw rfl)
  · exact (copyCheck_used b w (c.get 0 rfl rfl)).mono fun e w' ⟨he, hw⟩ => by
      subst he; subst hw
      exact hk w' c

theorem byte_info : ∃ i, Tryd.prog.info? 5 = some i ∧ i.zero = some (.int .u8 0) ∧ i.size = 1 ∧ i.bytes = 1 := by
  have h : (Tryd.prog.info? 5).map (fun i => (i.zero, i.size, i.bytes)) = some (some (.int .u8 0), 1, 1) := by kernel_rfl
  obtain ⟨i, hi, he⟩ := Option.map_eq_some_iff.1 h
  simp only [Prod.mk.injEq] at he
  exact ⟨i, hi, he⟩

theorem strCells_bytes (s : ByteArray) : Lib.strCells s = Lib.byteCells s.data.toList := rfl

theorem WriteString_use {W w : World} {S R : List Own} {Φ : PW} [Stable Φ] {b : Nat} {l : List UInt8} (s : ByteArray) (h : BdT b l R) (c : Ctx W w (R ++ S) Φ) (hlen : l.length + s.size ≤ 100000000000) {K : Ending → World → Prop}
    (hk : ∀ R' w', BdT b (l ++ s.data.toList) R' → Ctx W w' (R' ++ S) Φ → K (.returned (.tuple #[.int .i64 s.size, .nilIface])) w') : Calls Tryd.prog F.strings_Builder_WriteString #[.pointer (some ⟨b, 0, none⟩), .string s] w K := by
  obtain ⟨pa, p, cap, hpa, rfl⟩ := h
  obtain ⟨i, hi, hz, hsz, hby⟩ := byte_info
  refine (Bstrings_Builder_WriteString_run b 0 s (J := fun u w' => K (.returned u) w') c ?_).mono fun e w' ⟨v, he, hj⟩ => by rw [he]; exact hj
  refine fun w G c => copyCheck_use hpa c fun w c => ⟨rfl, [.blk b [.pointer (some ⟨b, 0, none⟩), .slice p l.length cap] 138, .buf p l.length cap (Lib.byteCells l) 5 1] ++ S, Φ, inferInstance, c, fun w G c => ⟨p, l.length, cap, c.get 0 rfl rfl, fun w G c => ?_⟩⟩
  obtain ⟨p', cap', w', hrun, c'⟩ := Ctx.appStr (P := Tryd.prog) (t := 109) (u := 9) (ty := 109) (kb := #[false, false]) (c.swap) Tryd.underlying109 Tryd.underlying9 hi hz hsz hby s (by omega) (by unfold maxLen; omega)
  refine ⟨p', _, cap', w', hrun, [.blk b [.pointer (some ⟨b, 0, none⟩), .slice p l.length cap] 138, .buf p' (l.length + s.size) cap' (Lib.byteCells l ++ Lib.strCells s) 5 1] ++ S, Φ, inferInstance, c'.swap, fun w G c => ⟨c.can 0 rfl (by simp), fun w' hw' => ?_⟩⟩
  refine ⟨[.blk b [.pointer (some ⟨b, 0, none⟩), .slice p' (l.length + s.size) cap'] 138, .buf p' (l.length + s.size) cap' (Lib.byteCells l ++ Lib.strCells s) 5 1] ++ S, Φ, inferInstance, c.put 0 hw' rfl, fun w G c => hk [.blk b [.pointer (some ⟨b, 0, none⟩), .slice p' (l.length + s.size) cap'] 138, .buf p' (l.length + s.size) cap' (Lib.byteCells l ++ Lib.strCells s) 5 1] w ⟨_, p', cap', .inr rfl, ?_⟩ c.left⟩
  have hl : (l ++ s.data.toList).length = l.length + s.size := by rw [List.length_append, Array.length_toList]; rfl
  rw [hl, strCells_bytes, Lib.byteCells_append]

theorem String_use {W w : World} {S R : List Own} {Φ : PW} [Stable Φ] {b : Nat} {l : List UInt8} (h : BdT b l R) (c : Ctx W w (R ++ S) Φ) {K : Ending → World → Prop}
    (hk : ∀ w', Ctx W w' S Φ → K (.returned (.string ⟨l.toArray⟩)) w') : Calls Tryd.prog F.strings_Builder_String #[.pointer (some ⟨b, 0, none⟩)] w K :=
  Bd.string Tryd.lays169 Tryd.Builder_Extra_169 h c hk

end Go.Proofs.YtbkpfhhhbhaecaaDoor
end

/-
  The encodings of ints, texts, values and rows: in plain Lean, and walked.
-/
section
set_option linter.unusedVariables false
set_option linter.unusedSimpArgs false
namespace Go.Vc
theorem GivesIn.know {Φ : PW} {P : Program} {f : FuncId} {args : Array Value} {v : Value} {p : Prop} (hΦ : ∀ M w, Φ M w → p) (h : p → GivesIn Φ P f args v) : GivesIn Φ P f args v :=
  ⟨fun W w S c => (h (hΦ _ _ c.phi)).go W w S c⟩
theorem GivesSl.know {Φ : PW} {P : Program} {f : FuncId} {args : Array Value} {α : Type} [Gv α] {l : List α} {mk : Value → Value} {p : Prop} (hΦ : ∀ M w, Φ M w → p) (h : p → GivesSl Φ P f args l mk) : GivesSl Φ P f args l mk :=
  ⟨fun W w S c => (h (hΦ _ _ c.phi)).go W w S c⟩
theorem GivesNew.know {Φ : PW} {P : Program} {f : FuncId} {args : Array Value} {α : Type} [Gv α] {l : List α} {t : TypeId} {p : Prop} (hΦ : ∀ M w, Φ M w → p) (h : p → GivesNew Φ P f args l t) : GivesNew Φ P f args l t :=
  ⟨fun W w S c => (h (hΦ _ _ c.phi)).go W w S c⟩
end Go.Vc
namespace Go.Proofs.YtbkpfhhhbhaecaaDoor
open Go.Vc

/-! ### in plain Lean -/
def numB (n : Int) : ByteArray := ⟨(Lib.itoa n).toArray⟩
def intB (n : Int) : ByteArray := numB n ++ ByteArray.mk #[59]
def natB (n : Int) : ByteArray := if n < 0 then ByteArray.mk #[] else intB n
def textB (s : ByteArray) : ByteArray := numB s.size ++ ByteArray.mk #[58] ++ s ++ ByteArray.mk #[44]
def valB (v : ValD) : ByteArray := intB v.kind ++ intB v.num ++ textB v.text
def valsL (r : List ValD) : List UInt8 := r.flatMap fun v => (valB v).data.toList
def rowL (r : List ValD) : List UInt8 := (natB r.length).data.toList ++ valsL r
def rowB (r : List ValD) : ByteArray := ⟨(rowL r).toArray⟩

theorem size_app (a b : ByteArray) : (a ++ b).size = a.size + b.size := ByteArray.size_append
theorem size_list (l : List UInt8) : (ByteArray.mk l.toArray).size = l.length := by simp [ByteArray.size]
theorem list_size (a : ByteArray) : a.data.toList.length = a.size := by rw [Array.length_toList]; rfl

theorem nDigits_le : ∀ (k u : Nat), u < 10 ^ k → 0 < k → Lib.nDigits u ≤ k
  | 0, u, _, h => by omega
  | k + 1, u, h, _ => by
    by_cases h1 : u < 10
    · rw [Lib.nDigits_small h1]; omega
    · rw [Lib.nDigits_big h1]
      have hk : 0 < k := by
        rcases Nat.eq_zero_or_pos k with rfl | h2
        · simp at h; omega
        · exact h2
      have := nDigits_le k (u / 10) (by rw [Nat.pow_succ] at h; omega) hk
      omega

theorem itoa_len {n : Int} (h : I64 n) : 1 ≤ (Lib.itoa n).length ∧ (Lib.itoa n).length ≤ 20 := by
  unfold I64 at h
  unfold Lib.itoa
  split
  · have h1 := nDigits_le 19 n.natAbs (by omega) (by decide)
    have h2 := Lib.nDigits_pos n.natAbs
    rw [List.length_cons, Lib.decDigits_length]; omega
  · have h1 := nDigits_le 19 n.toNat (by omega) (by decide)
    have h2 := Lib.nDigits_pos n.toNat
    rw [Lib.decDigits_length]; omega

theorem numB_size {n : Int} (h : I64 n) : 1 ≤ (numB n).size ∧ (numB n).size ≤ 20 := by
  unfold numB; rw [size_list]; exact itoa_len h
theorem intB_size {n : Int} (h : I64 n) : 2 ≤ (intB n).size ∧ (intB n).size ≤ 21 := by
  have := numB_size h
  have e : (ByteArray.mk #[59]).size = 1 := rfl
  unfold intB; rw [size_app, e]; omega
theorem natB_size {n : Int} (h : I64 n) : (natB n).size ≤ 21 := by
  unfold natB
  split
  · exact Nat.zero_le _
  · exact (intB_size h).2
theorem textB_size {s : ByteArray} (h : s.size ≤ 9223372036854775807) : (textB s).size ≤ s.size + 22 ∧ s.size + 3 ≤ (textB s).size := by
  have := numB_size (n := s.size) (by unfold I64; omega)
  have e : (ByteArray.mk #[58]).size = 1 := rfl
  have e2 : (ByteArray.mk #[44]).size = 1 := rfl
  unfold textB; rw [size_app, size_app, size_app, e, e2]; omega
theorem valB_size {v : ValD} (h1 : I64 v.kind) (h2 : I64 v.num) (h : v.text.size ≤ 9223372036854775807) : (valB v).size ≤ v.text.size + 64 := by
  have a := intB_size h1
  have b := intB_size h2
  have c := textB_size h
  unfold valB; rw [size_app, size_app]; omega

theorem valsL_app (a b : List ValD) : valsL (a ++ b) = valsL a ++ valsL b := by simp [valsL]
theorem valsL_one (v : ValD) : valsL [v] = (valB v).data.toList := by simp [valsL]
theorem valsL_len {m : Nat} : ∀ {r : List ValD}, (∀ v ∈ r, (I64 v.kind ∧ I64 v.num) ∧ v.text.size ≤ m) → m ≤ 9223372036854775807 → (valsL r).length ≤ r.length * (m + 64)
  | [], _, _ => by simp [valsL]
  | v :: r, h, hm => by
    have h1 := valsL_len (r := r) (fun u hu => h u (List.mem_cons_of_mem _ hu)) hm
    obtain ⟨⟨a, b⟩, c⟩ := h v List.mem_cons_self
    have h2 := valB_size a b (by omega)
    have e : valsL (v :: r) = (valB v).data.toList ++ valsL r := by simp [valsL]
    rw [e, List.length_append, list_size, List.length_cons, Nat.add_mul]
    omega
theorem rowL_len {m : Nat} {r : List ValD} (h : ∀ v ∈ r, (I64 v.kind ∧ I64 v.num) ∧ v.text.size ≤ m) (hm : m ≤ 9223372036854775807) (hr : r.length ≤ 1000000) : (rowL r).length ≤ 21 + r.length * (m + 64) := by
  have h1 := valsL_len h hm
  have h2 := natB_size (n := (r.length : Int)) (by unfold I64; omega)
  unfold rowL; rw [List.length_append, list_size]; omega

/-! ### walked -/
theorem rep_val {M : List Nat} {w : World} {cs : List Value} {v : ValD} (h : Gv.rep M w cs v) : cs = [.int .i64 v.kind, .int .i64 v.num, .string v.text] ∧ I64 v.kind ∧ I64 v.num ∧ v.text.size ≤ maxLen := by
  obtain ⟨_, _, rfl, ⟨rfl, h1⟩, _, _, rfl, ⟨rfl, h2⟩, rfl, h3⟩ := h
  exact ⟨rfl, h1, h2, h3⟩

theorem sl_i64 {M : List Nat} {w : World} {p : Option Addr} {l : List ValD} (h : Sl M w p l) : ∀ v ∈ l, (I64 v.kind ∧ I64 v.num) ∧ v.text.size ≤ maxLen := by
  intro v hv
  obtain ⟨i, hi, rfl⟩ := List.getElem_of_mem hv
  obtain ⟨_, _, _, _, _, _, hr⟩ := h i hi
  obtain ⟨_, h1, h2, h3⟩ := rep_val hr
  exact ⟨⟨h1, h2⟩, h3⟩

abbrev tabN : String := ((Rows.placeSpreadRow.laid.map Prod.fst).drop 2).headD default
/-- the table of the powers of ten lies there -/
abbrev TabI : PW := Tab Tryd.prog tabN .u64 Lib.pow10Tab

theorem Itoa_in {Φ : PW} [Stable Φ] (hΦ : ∀ M w, Φ M w → TabI M w) (n : Int) (h : I64 n) : GivesIn Φ Tryd.prog F.strconv_Itoa #[.int .i64 n] (.string (numB n)) :=
  itoa_in (name := tabN) (fun n h0 h1 w ht => Any.strconv_Itoa Tryd.laysM171 n h0 h1 w ht) hΦ n h

theorem Itoa_small (i : Nat) (hi : i < 100) : Gives Tryd.prog F.strconv_Itoa #[.int .i64 i] (.string (numB i)) :=
  Quiet.gives ⟨fun w => by
    have h := Any.strconv_Itoa_small { Tryd.lays171 with } i hi w
    rw [← Lib.itoa_nonneg] at h
    exact h⟩

/-- ints that the library writes: at these places, or small ones -/
def Dec (Φ : PW) (n : Int) : Prop := (∀ M w, Φ M w → TabI M w) ∧ I64 n ∨ ∃ i : Nat, i < 100 ∧ n = i

theorem Itoa_dec {Φ : PW} [Stable Φ] {n : Int} (h : Dec Φ n) : GivesIn Φ Tryd.prog F.strconv_Itoa #[.int .i64 n] (.string (numB n)) := by
  rcases h with ⟨h1, h2⟩ | ⟨i, hi, rfl⟩
  · exact Itoa_in h1 n h2
  · exact (Itoa_small i hi).in
theorem Dec.i64 {Φ : PW} {n : Int} (h : Dec Φ n) : I64 n := by
  rcases h with ⟨_, h2⟩ | ⟨i, hi, rfl⟩
  · exact h2
  · unfold I64; omega

theorem Int_in {Φ : PW} [Stable Φ] {n : Int} (h : Dec Φ n) : GivesIn Φ Tryd.prog F.wire_Int #[.int .i64 n] (.string (intB n)) := by
  refine gives_in (Bwire_Int_run n) fun W R => ?_
  have := numB_size h.i64
  exact fun w G cx => (Itoa_dec h).use cx fun w cx => ⟨_, rfl, R, Φ, inferInstance, cx, by show (numB n).size + 1 ≤ _; omega, fun w G cx => ⟨rfl, cx.left⟩⟩

theorem Num_in {Φ : PW} [Stable Φ] {n : Int} (h : Dec Φ n) : GivesIn Φ Tryd.prog F.wire_Num #[.int .i64 n] (.string (natB n)) := by
  refine gives_in (Bwire_Num_run n) fun W R => Br.intro (fun hn => fun w G cx => ⟨?_, cx.left⟩) (fun hn => fun w G cx => (Int_in h).use cx fun w cx => ⟨_, rfl, R, Φ, inferInstance, cx, fun w G cx => ⟨?_, cx.left⟩⟩)
  · unfold natB; rw [if_pos (of_decide_eq_true hn)]
  · unfold natB; rw [if_neg (of_decide_eq_false hn)]

theorem Text_in {Φ : PW} [Stable Φ] {s : ByteArray} (h : Dec Φ s.size) (hs : s.size ≤ 1000000000000) : GivesIn Φ Tryd.prog F.wire_Text #[.string s] (.string (textB s)) := by
  refine gives_in (Bwire_Text_run s) fun W R => ?_
  have h1 := numB_size h.i64
  have e : (ByteArray.mk #[58]).size = 1 := rfl
  have e2 : (ByteArray.mk #[44]).size = 1 := rfl
  exact fun w G cx => (Itoa_dec h).use cx fun w cx => ⟨_, rfl, R, Φ, inferInstance, cx, by show (numB s.size).size + 1 ≤ _; omega, by show (numB s.size ++ ByteArray.mk #[58]).size + s.size ≤ _; rw [size_app, e]; omega, by show (numB s.size ++ ByteArray.mk #[58] ++ s).size + 1 ≤ _; rw [size_app, size_app, e]; omega, fun w G cx => ⟨rfl, cx.left⟩⟩

theorem Bytes_in {Φ : PW} [Stable Φ] (v : ValD) (hΦ : ∀ M w, Φ M w → TabI M w) (h1 : I64 v.kind) (h2 : I64 v.num) (hs : v.text.size ≤ 1000000000000) : GivesIn Φ Tryd.prog F.value_Bytes #[v.v] (.string (valB v)) := by
  refine gives_in (Bvalue_Bytes_run v.kind v.num v.text) fun W R => ?_
  have a := intB_size h1
  have b := intB_size h2
  have c := textB_size (s := v.text) (by omega)
  exact fun _ => ⟨R, Φ, inferInstance, fun w G cx => cx, fun w G cx => (Int_in (.inl ⟨hΦ, h1⟩)).use cx fun w cx => ⟨_, rfl, R, Φ, inferInstance, cx, fun w G cx => cx, fun w G cx => (Int_in (.inl ⟨hΦ, h2⟩)).use cx fun w cx => ⟨_, rfl, R, Φ, inferInstance, cx, fun w G cx => cx, by show (intB v.kind).size + (intB v.num).size ≤ _; omega,
    fun w G cx => (Text_in (.inl ⟨hΦ, by unfold I64; omega⟩) hs).use cx fun w cx => ⟨_, rfl, R, Φ, inferInstance, cx, fun w G cx => cx, by show (intB v.kind ++ intB v.num).size + (textB v.text).size ≤ _; rw [size_app]; omega, fun w G cx => ⟨rfl, cx.left⟩⟩⟩⟩⟩

theorem RowBytes_in {Φ : PW} [Stable Φ] (p : Option Addr) (cap : Nat) (r : List ValD) (hT : ∀ M w, Φ M w → TabI M w) (hΦ : ∀ M w, Φ M w → Sl M w p r) (hr : r.length ≤ 1000000) (ht : ∀ v ∈ r, v.text.size ≤ 10000) :
    GivesIn Φ Tryd.prog F.value_RowBytes #[.slice p r.length cap] (.string (rowB r)) := by
  refine .there (fun M w h => (hΦ M w h).there) fun hth => .know (fun M w h => sl_i64 (hΦ M w h)) fun hi => ?_
  have hv : ∀ v ∈ r, (I64 v.kind ∧ I64 v.num) ∧ v.text.size ≤ 10000 := fun v h => ⟨(hi v h).1, ht v h⟩
  have hL := rowL_len hv (by decide) hr
  have hL : (rowL r).length ≤ 20000000000 := by
    have : r.length * (10000 + 64) ≤ 1000000 * 10064 := Nat.mul_le_mul hr (Nat.le_refl _)
    omega
  have hnat : (natB r.length).data.toList.length ≤ 20000000000 := by unfold rowL at hL; rw [List.length_append] at hL; omega
  refine gives_in (Bvalue_RowBytes_run p r.length cap) fun W R => ?_
  refine fun b w G cx => (Num_in (Φ := Φ) (.inl ⟨hT, by unfold I64; omega⟩)).use cx fun w cx => ⟨_, rfl, .blk b [.pointer none, .slice none 0 0] 138 :: R, Φ, inferInstance, cx, fun w G cx => ?_⟩
  refine WriteString_use (natB r.length) Bd.nil (Bd.fresh cx) (by rw [← list_size]; simp only [List.length_nil]; omega) fun R1 w hB cx => ⟨_, _, rfl, R1 ++ R, Φ, inferInstance, by rw [List.append_assoc]; exact cx, ?_⟩
  rw [List.nil_append] at hB
  clear cx
  refine exI_mk (fun iI R' Φ' k => ∃ (i : Nat) (Q : List Own), iI = i ∧ i ≤ r.length ∧ BdT b ((natB r.length).data.toList ++ valsL (r.take i)) Q ∧ R' = Q ++ R ∧ Φ' = Φ ∧ k = r.length - i) ⟨⟨_, Φ, _, inferInstance, fun w G cx => cx, 0, R1, rfl, Nat.zero_le _, by rw [List.take_zero, show valsL [] = [] from rfl, List.append_nil]; exact hB, rfl, rfl, rfl⟩, ?_⟩
  rintro iI R2 Φ2 k _ ⟨i, Q, rfl, hi, hQ, rfl, rfl, rfl⟩
  refine Br.intro (fun hlt => ?_) (fun hge => fun w G cx => ?_)
  · have hlt : i < r.length := by have := of_decide_eq_true hlt; omega
    obtain ⟨g, o, rfl⟩ := hth (by omega)
    obtain ⟨⟨h1, h2⟩, h3⟩ := hv r[i] (List.getElem_mem hlt)
    have hsz := valB_size h1 h2 (by omega)
    have hlen : ((natB r.length).data.toList ++ valsL (r.take (i + 1))).length ≤ 20000000000 := by
      have e : valsL r = valsL (r.take (i + 1)) ++ valsL (r.drop (i + 1)) := by rw [← valsL_app, List.take_append_drop]
      unfold rowL at hL
      rw [e, List.length_append, List.length_append] at hL
      rw [List.length_append]; omega
    have hstep : valsL (r.take (i + 1)) = valsL (r.take i) ++ (valB r[i]).data.toList := by rw [List.take_succ_eq_append_getElem hlt, valsL_app, valsL_one]
    refine ⟨by omega, ptrK_intro g o rfl fun w G cx => ⟨r[i].kind, r[i].num, r[i].text, by rw [Int.toNat_natCast]; exact sl_val (hΦ _ _ cx.phi) hlt, fun _ w G cx => (Bytes_in (Φ := Φ2) r[i] hT h1 h2 (by omega)).use cx fun w cx => ⟨_, rfl, Q ++ R, Φ2, inferInstance, cx, fun w G cx => ?_⟩⟩⟩
    refine WriteString_use (valB r[i]) hQ (cx.re (List.append_assoc _ _ _)) (by rw [hstep, ← List.append_assoc, List.length_append, list_size] at hlen; omega) fun Q' w hQ' cx => ⟨_, _, rfl, Q' ++ R, Φ2, inferInstance, by rw [List.append_assoc]; exact cx, by unfold I64; omega, _, Φ2, r.length - (i + 1), inferInstance, fun w G cx => cx, ⟨i + 1, Q', by omega, hlt, ?_, rfl, rfl, rfl⟩, by omega⟩
    rw [hstep, ← List.append_assoc]; exact hQ'
  · have hge : i = r.length := by have := of_decide_eq_false hge; omega
    subst hge
    rw [List.take_length] at hQ
    exact String_use hQ (cx.re (List.append_assoc _ _ _)) fun w cx => ⟨_, rfl, R, Φ2, inferInstance, cx, fun w G cx => ⟨rfl, cx.left⟩⟩

end Go.Proofs.YtbkpfhhhbhaecaaDoor
end

/-
  The bucket of a row, walked.
-/
section
set_option linter.unusedVariables false
set_option linter.unusedSimpArgs false
namespace Go.Vc
/-- bytes that nobody writes -/
def BytesAt (b : Nat) (l : List UInt8) : PW := fun M w => ∀ j, (hj : j < l.length) → b ∉ M ∧ w.cell? ⟨b, j, none⟩ = some (.int .u8 (l[j].toNat : Int))
instance instStableBytesAt (b : Nat) (l : List UInt8) : Stable (BytesAt b l) := ⟨fun {M M' w w'} hs h j hj => by
  obtain ⟨h1, h2⟩ := h j hj
  have hlt : b < w.heap.size := by
    rcases Nat.lt_or_ge b w.heap.size with h' | h'
    · exact h'
    · simp [World.cell?, Array.getElem?_eq_none h'] at h2
  refine ⟨fun hm => ?_, hs.chg.cell h2 h1⟩
  rcases hs.sub b hm with h | h
  · exact h1 h
  · omega⟩
theorem chg_bytes {w : World} {e : TypeId} {s : ByteArray} : Chg [] w (Lib.bytesWorld w e s) :=
  have h := Lib.bytesWorld_below w e s
  ⟨h.os, h.tape, h.output, h.size, fun k hk _ => h.block k hk⟩
theorem Ctx.bytes {W w : World} {S : List Own} {Φ : PW} [Stable Φ] (c : Ctx W w S Φ) (e : TypeId) (s : ByteArray) : Ctx W (Lib.bytesWorld w e s) S (fun M w' => Φ M w' ∧ BytesAt w.heap.size s.data.toList M w') := by
  refine (c.call chg_bytes).add fun j hj => ⟨fun hm => absurd (c.lt hm) (Nat.lt_irrefl _), ?_⟩
  have hj2 : j < s.size := by
    rw [Array.length_toList] at hj
    exact hj
  rw [Lib.bytesWorld_cell w e s j hj2, show s.data.toList.getD j 0 = s.data.toList[j] by rw [List.getD, List.getElem?_eq_getElem hj]; rfl]
end Go.Vc
namespace Go.Proofs.YtbkpfhhhbhaecaaDoor
open Go.Vc


/-! ### in plain Lean -/
def sumB : List UInt8 → Nat
  | [] => 0
  | c :: l => c.toNat + sumB l
theorem sumB_app : ∀ (a b : List UInt8), sumB (a ++ b) = sumB a + sumB b
  | [], b => by simp [sumB]
  | c :: a, b => by simp only [List.cons_append, sumB, sumB_app a b]; omega
theorem sumB_le : ∀ (l : List UInt8), sumB l ≤ l.length * 255
  | [] => Nat.le_refl _
  | c :: l => by
    have h1 := sumB_le l
    have h2 : c.toNat < 256 := c.toNat_lt
    simp only [sumB, List.length_cons, Nat.add_mul]; omega
theorem sumB_step {l : List UInt8} {i : Nat} (h : i < l.length) : sumB (l.take (i + 1)) = sumB (l.take i) + l[i].toNat := by
  rw [List.take_succ_eq_append_getElem h, sumB_app]
  simp [sumB]
def bucketP (r : List ValD) : Int := ((sumB (rowL r) % 16 : Nat) : Int)
theorem bucket_bd (r : List ValD) : 0 ≤ bucketP r ∧ bucketP r < 16 := by unfold bucketP; omega
theorem wrap_u8 (c : UInt8) : IntKind.i64.wrap (c.toNat : Int) = (c.toNat : Int) := w64_id (by unfold I64; have := c.toNat_lt; omega)
theorem rowB_size {r : List ValD} (hi : ∀ v ∈ r, (I64 v.kind ∧ I64 v.num) ∧ v.text.size ≤ maxLen) (h1 : r.length ≤ 10000) (h2 : ∀ v ∈ r, v.text.size ≤ 10000) : (rowB r).size ≤ 200000000 := by
  have hv : ∀ v ∈ r, (I64 v.kind ∧ I64 v.num) ∧ v.text.size ≤ 10000 := fun v h => ⟨(hi v h).1, h2 v h⟩
  have hL := rowL_len hv (by decide) (by omega)
  have : r.length * (10000 + 64) ≤ 10000 * 10064 := Nat.mul_le_mul h1 (Nat.le_refl _)
  unfold rowB
  rw [size_list]; omega

section
variable {Φ : PW} {p : Option Addr} {cap : Nat} {r : List ValD} {l : List DeltaD}

theorem Bucket_in [Stable Φ] [hT : Has Φ TabI] [hΦ : Has Φ (fun M w => Sl M w p r)] (hr : r.length ≤ 10000) (ht : ∀ v ∈ r, v.text.size ≤ 10000) : GivesIn Φ Tryd.prog F.place_Bucket #[.slice p r.length cap] (.int .i64 (bucketP r)) := by
  refine .know (fun M w h => sl_i64 (hΦ.go M w h)) fun hi => ?_
  have hsz := rowB_size hi hr ht
  refine gives_in (Bplace_Bucket_run p r.length cap) fun W R => ?_
  refine fun w G cx => (RowBytes_in p cap r hT.go hΦ.go (by omega) ht).toS cx fun w G cx => ?_
  obtain ⟨b, hb⟩ : ∃ b, w.heap.size = b := ⟨_, rfl⟩
  have cx1 := cx.bytes 5 (rowB r)
  rw [hb] at cx1
  have hL : (rowB r).data.toList = rowL r := rfl
  rw [hL] at cx1
  refine ⟨some ⟨b, 0, none⟩, (rowB r).size, _, _, by rw [← hb]; exact Lib.run_convert_string_bytes w 9 109 5 (rowB r) Tryd.underlying9 (by kernel_rfl) (by kernel_rfl), R, _, inferInstance, cx1, ?_⟩
  clear cx cx1 hb
  have hn : (rowB r).size = (rowL r).length := size_list _
  rw [hn] at hsz ⊢
  have hst : Stable (fun M w => Φ M w ∧ BytesAt b (rowL r) M w) := inferInstance
  refine exI_mk (fun n iI R' Φ' k => ∃ i : Nat, iI = i ∧ i ≤ (rowL r).length ∧ n = (sumB ((rowL r).take i) : Int) ∧ R' = R ∧ Φ' = (fun M w => Φ M w ∧ BytesAt b (rowL r) M w) ∧ k = (rowL r).length - i) ⟨⟨R, _, _, hst, fun w F c => c, 0, rfl, Nat.zero_le _, rfl, rfl, rfl, rfl⟩, ?_⟩
  rintro n iI R1 Φ1 k _ ⟨i, rfl, hi2, rfl, rfl, rfl, rfl⟩
  refine Br.intro (fun hlt => ?_) (fun hge => ?_)
  · have hlt : i < (rowL r).length := by have := of_decide_eq_true hlt; omega
    have h1 := sumB_le ((rowL r).take i)
    rw [List.length_take] at h1
    have h2 := (rowL r)[i].toNat_lt
    refine ⟨by omega, ptrK_intro b 0 rfl fun w G cx => ⟨((rowL r)[i].toNat : Int), ?_, ?_, by unfold I64; omega, R1, _, (rowL r).length - (i + 1), hst, fun w G cx => cx, ⟨i + 1, rfl, hlt, ?_, rfl, rfl, rfl⟩, by omega⟩⟩
    · rw [Nat.zero_add, Int.toNat_natCast]
      exact (cx.phi.2 i hlt).2
    · rw [wrap_u8]; unfold I64; omega
    · rw [wrap_u8, sumB_step hlt]; omega
  · have hge : i = (rowL r).length := by have := of_decide_eq_false hge; omega
    subst hge
    refine ⟨by omega, fun w G cx => ⟨?_, cx.left.fst⟩⟩
    rw [List.take_length]
    rfl
end
end Go.Proofs.YtbkpfhhhbhaecaaDoor
end

/-
  Even and SameInts, walked; the law's small(), walked.
-/
section
set_option linter.unusedVariables false
set_option linter.unusedSimpArgs false
namespace Go.Proofs.YtbkpfhhhbhaecaaDoor
open Go.Vc


section
variable {Φ : PW} {p q : Option Addr} {cap cap2 : Nat} {l a b : List Int} {W w : World} {R G : List Own}

theorem Same37_in [Stable Φ] [hΦ : Has Φ (fun M w => Sl M w p a)] [hΨ : Has Φ (fun M w => Sl M w q b)] (ha : a.length ≤ 1000000) : GivesIn Φ Tryd.prog F.errataref37_SameInts #[.slice p a.length cap, .slice q b.length cap2] (.bool (decide (a = b))) := by
  refine .there (fun M w h => (hΦ.go M w h).there) fun hta => .there (fun M w h => (hΨ.go M w h).there) fun htb => ?_
  refine gives_in (Berrataref37_SameInts_run p a.length cap q b.length cap2) fun W R => Br.intro (fun hn => fun w G cx => ⟨?_, cx.left⟩) (fun hn => ?_)
  · have hn := of_decide_eq_true hn
    rw [decide_eq_false fun e => hn (by rw [e])]
  have hn : b.length = a.length := by have := Decidable.not_not.1 (of_decide_eq_false hn); omega
  refine exI_mk (fun n R' Φ' k => ∃ i : Nat, n = i ∧ i ≤ a.length ∧ R' = R ∧ Φ' = Φ ∧ k = a.length - i ∧ a.take i = b.take i) ⟨⟨R, Φ, _, inferInstance, fun w F c => c, 0, rfl, Nat.zero_le _, rfl, rfl, rfl, rfl⟩, ?_⟩
  rintro n R1 Φ1 k _ ⟨i, rfl, hi, rfl, rfl, rfl, hs⟩
  refine Br.intro (fun hlt => ?_) (fun hge => fun w G cx => ⟨?_, cx.left⟩)
  · have hlt : i < a.length := by have := of_decide_eq_true hlt; omega
    obtain ⟨g1, o1, rfl⟩ := hta (by omega)
    obtain ⟨g2, o2, rfl⟩ := htb (by omega)
    have hlt2 : i < b.length := by omega
    refine fun w G cx => ⟨by omega, ptrK_intro g1 o1 rfl ⟨a[i], by rw [Int.toNat_natCast]; exact sl_int (hΦ.go _ _ cx.phi) hlt, by omega, ptrK_intro g2 o2 rfl ⟨b[i], by rw [Int.toNat_natCast]; exact sl_int (hΨ.go _ _ cx.phi) hlt2, Br.intro (fun h => fun w G cx => ⟨?_, cx.left⟩) (fun h => ⟨by unfold I64; omega, R1, Φ1, a.length - (i + 1), inferInstance, fun w G cx => cx, ⟨i + 1, rfl, hlt, rfl, rfl, rfl, ?_⟩, by omega⟩)⟩⟩⟩
    · have h := of_decide_eq_true h
      rw [decide_eq_false fun e => h (by subst e; rfl)]
    · have h : a[i] = b[i] := Decidable.not_not.1 (of_decide_eq_false h)
      rw [List.take_succ_eq_append_getElem hlt, List.take_succ_eq_append_getElem hlt2, hs, h]
  · have hge : i = a.length := by have := of_decide_eq_false hge; omega
    subst hge
    rw [List.take_length, ← hn, List.take_length] at hs
    rw [decide_eq_true hs]

theorem evenL_i64 {n : Int} (h1 : 1 ≤ n) (h2 : n ≤ 8) (m : Nat) (hm : m ≤ 16) : ∀ x ∈ (List.range m).map (evenAt n), I64 x := fun x hx => by
  obtain ⟨i, hi, rfl⟩ := List.mem_map.1 hx
  have hi := List.mem_range.1 hi
  have h : (i : Int) * n = ((i * n.toNat : Nat) : Int) := by rw [Int.natCast_mul, Int.toNat_of_nonneg (by omega)]
  have h3 : i * n.toNat ≤ 16 * 8 := Nat.mul_le_mul (by omega) (by omega)
  unfold evenAt I64
  rw [h, show ((i * n.toNat : Nat) : Int).tdiv 16 = ((i * n.toNat / 16 : Nat) : Int) from rfl]
  omega

theorem Even_sl [Stable Φ] (n : Int) : GivesSl Φ Tryd.prog F.place_Even #[.int .i64 n] (evenP n) id := by
  refine gives_sl (Bplace_Even_run n) fun W R => ?_
  unfold evenP
  refine fun w G cx => Br.intro (fun h => fun w G cx => ?_) (fun h => ?_)
  · have h : n < 1 ∨ 8 < n := by simpa using h
    rw [if_pos h]
    have cx : Ctx W w (bufZ none 0 [] :: R) Φ := (cx.nobuf 3 1).left
    obtain ⟨cx3, hs, _⟩ := Ctx.freeze (α := Int) (l := []) cx (ints_elems _ (by simp))
    exact ⟨none, 0, rfl, Nat.le_refl _, by decide, cx3.add hs⟩
  have h : ¬ (n < 1 ∨ 8 < n) := by simpa using h
  rw [if_neg h]
  clear cx
  have hmul : ∀ i : Nat, i < 16 → I64 ((i : Int) * n) := fun i hi => by
    have e : (i : Int) * n = ((i * n.toNat : Nat) : Int) := by rw [Int.natCast_mul, Int.toNat_of_nonneg (by omega)]
    have h3 : i * n.toNat ≤ 16 * 8 := Nat.mul_le_mul (by omega) (by omega)
    rw [e]; unfold I64; omega
  refine exI_mk (fun op on oc iI R' Φ' m => ∃ i : Nat, iI = i ∧ i ≤ 16 ∧ on = ((List.range i).map (evenAt n)).length ∧ R' = bufZ op oc ((List.range i).map (evenAt n)) :: R ∧ Φ' = Φ ∧ m = 16 - i) ⟨⟨bufZ none 0 [] :: R, Φ, _, inferInstance, fun w G cx => cx.nobuf 3 1, 0, rfl, by decide, rfl, rfl, rfl, rfl⟩, ?_⟩
  rintro op on oc iI R1 Φ1 m _ ⟨i, rfl, hi, rfl, rfl, rfl, rfl⟩
  have hil : ((List.range i).map (evenAt n)).length = i := by rw [List.length_map, List.length_range]
  refine Br.intro (fun hlt => ?_) (fun hge => fun w G cx => ?_)
  · have hlt : i < 16 := by have := of_decide_eq_true hlt; omega
    refine ⟨hmul i hlt, by omega, evenL_i64 (by omega) (by omega) (i + 1) hlt _ (List.mem_map.2 ⟨i, List.mem_range.2 (by omega), rfl⟩), fun kb w G cx => ?_⟩
    have e : (List.range (i + 1)).map (evenAt n) = (List.range i).map (evenAt n) ++ [((i : Int) * n).tdiv 16] := by rw [List.range_succ, List.map_append, List.map_singleton]; rfl
    obtain ⟨p', c', w', hrun, cx'⟩ := pushZ (by omega) cx
    rw [← e] at hrun cx'
    exact ⟨p', _, c', w', hrun, _, Φ1, inferInstance, cx', by unfold I64; omega, _, Φ1, 16 - (i + 1), inferInstance, fun w G cx => cx, ⟨i + 1, rfl, hlt, rfl, rfl, rfl, rfl⟩, by omega⟩
  · have hge : i = 16 := by have := of_decide_eq_false hge; omega
    subst hge
    have cx := cx.left
    obtain ⟨_, k1, k2⟩ := cx.bufLen 0 rfl
    obtain ⟨cx3, hs, _⟩ := Ctx.freeze (α := Int) cx (ints_elems _ (evenL_i64 (by omega) (by omega) 16 (by decide)))
    rw [hil] at k1
    exact ⟨op, oc, rfl, k1, k2, cx3.add hs⟩
end
end Go.Proofs.YtbkpfhhhbhaecaaDoor
end

/-
  small(), walked.
-/
section
set_option linter.unusedVariables false
set_option linter.unusedSimpArgs false
namespace Go.Proofs.YtbkpfhhhbhaecaaDoor
open Go.Vc


abbrev e3 : List Int := [0, 0, 0, 0, 0, 0, 1, 1, 1, 1, 1, 2, 2, 2, 2, 2]
abbrev e32 : List Int := [0, 0, 0, 0, 0, 0, 1, 1, 1, 1, 1, 0, 0, 1, 1, 1]
abbrev vz : List ValD := [⟨0, 0, ByteArray.mk #[]⟩]
theorem e3_is : evenP 3 = e3 := by decide
theorem e32_is (O : List Nat) : spreadG e3 2 O = e32 := by
  have h : evenRoom 2 O = evenRoom 2 [] := by funext w; simp [evenRoom]
  unfold spreadG
  rw [h]
  decide
theorem bkt_nil : bucketP [] = 11 := by kernel_rfl
theorem bkt_vz : bucketP vz = 8 := by kernel_rfl
theorem vz_rep {M : List Nat} {w : World} : Gv.rep M w [.int .i64 0, .int .i64 0, .string (ByteArray.mk #[])] (⟨0, 0, ByteArray.mk #[]⟩ : ValD) :=
  ⟨[.int .i64 0], [.int .i64 0, .string (ByteArray.mk #[])], rfl, ⟨rfl, by show I64 0; unfold I64; omega⟩, [.int .i64 0], [.string (ByteArray.mk #[])], rfl, ⟨rfl, by show I64 0; unfold I64; omega⟩, rfl, by decide⟩
theorem e3_i64 : ∀ x ∈ e3, I64 x := by unfold I64; decide
theorem e32_i64 : ∀ x ∈ e32, I64 x := by unfold I64; decide

set_option maxHeartbeats 1000000 in
theorem small37_in {Φ : PW} [Stable Φ] [hT : Has Φ TabI] : GivesIn Φ Tryd.prog F.erratalaw37_small #[] (.bool true) := by
  refine gives_in (Berratalaw37_small_run) fun W R => ?_
  intro w G cx
  have cx0 : Ctx W w (bufZ none 0 [] :: (R ++ G)) Φ := cx.nobuf 3 1
  obtain ⟨cx1, hs, _⟩ := Ctx.freeze (α := ValD) (l := []) (cx.nobuf 99 3) (by exact Elems.nil)
  have cx2 : Ctx W w (R ++ G) (fun M w => Φ M w ∧ Sl M w none ([] : List ValD)) := cx1.add hs
  clear cx cx0 cx1 hs
  have b0 := Bucket_in (Φ := fun M w => Φ M w ∧ Sl M w none ([] : List ValD)) (p := none) (cap := 0) (r := []) (by decide) (by simp)
  rw [bkt_nil] at b0
  refine b0.toI cx2 (Br.intro (fun _ => ?_) (fun h => absurd rfl (of_decide_eq_false h)))
  clear cx2 b0
  intro k7 w G cx
  obtain ⟨cx1, hs⟩ := cx.freezeBlk (α := ValD) (l := vz) (Elems.one vz_rep)
  have cx2 : Ctx W w (R ++ G) (fun M w => Φ M w ∧ Sl M w (some ⟨k7, 0, none⟩) vz) := (cx1.add hs).weak fun M w h => ⟨h.1.1, h.2⟩
  clear cx cx1 hs
  have b0 := Bucket_in (Φ := fun M w => Φ M w ∧ Sl M w (some ⟨k7, 0, none⟩) vz) (p := some ⟨k7, 0, none⟩) (cap := 1) (r := vz) (by decide) (by intro v hv; rw [List.mem_singleton.1 hv]; decide)
  rw [bkt_vz] at b0
  refine b0.use cx2 fun w c => ⟨8, rfl, R, Φ, inferInstance, Ctx.has c, ?_⟩
  intro w G cx
  clear b0
  have hE := Even_sl (Φ := Φ) 3
  rw [e3_is] at hE
  refine hE.to cx fun p1 c1 f1 f2 st1 => ?_
  clear cx
  intro k24 w G cx
  obtain ⟨cx1, hs⟩ := cx.freezeBlk (α := Int) (l := e3) (ints_elems e3 e3_i64)
  have hS := Same37_in (Φ := fun M w => (Φ M w ∧ Sl M w p1 e3) ∧ Sl M w (some ⟨k24, 0, none⟩) e3) (p := p1) (cap := c1) (a := e3) (q := some ⟨k24, 0, none⟩) (cap2 := 16) (b := e3) (by decide)
  rw [decide_eq_true rfl] at hS
  refine (hS.toBW (Ψ := Φ)) (cx1.add hs) fun w2 G2 cx2 => ?_
  clear cx1 hs cx hS
  refine hE.to cx2 fun p2 c2 f3 f4 st2 => fun w G cx => ?_
  refine Spread_to (l := e3) (n := 2) cx (fun h => absurd ⟨by decide, by decide, by decide⟩ h) fun O p3 c3 _ _ _ hO s1 s2 st3 => ?_
  rw [show (2 : Int).toNat = 2 from rfl, e32_is] at s1 st3 ⊢
  refine Br.intro (fun _ => Br.intro (fun _ => Br.intro (fun _ => ?_) (fun h => absurd rfl (of_decide_eq_false h))) (fun h => by cases h)) (fun h => absurd rfl (of_decide_eq_false h))
  intro k51 w G cx
  obtain ⟨cx1, hs⟩ := cx.freezeBlk (α := Int) (l := e32) (ints_elems e32 e32_i64)
  have hS := Same37_in (Φ := fun M w => ((Φ M w ∧ Sl M w p2 e3) ∧ Sl M w p3 e32) ∧ Sl M w (some ⟨k51, 0, none⟩) e32) (p := p3) (cap := c3) (a := e32) (q := some ⟨k51, 0, none⟩) (cap2 := 16) (b := e32) (by decide)
  rw [decide_eq_true rfl] at hS
  exact (hS.toBW (Ψ := Φ)) (cx1.add hs) fun w G cx => ⟨rfl, cx.left⟩
end Go.Proofs.YtbkpfhhhbhaecaaDoor
end

/-
  Move, walked; what Move and Even give, in plain Lean.
-/
section
set_option linter.unusedVariables false
set_option linter.unusedSimpArgs false
namespace Go.Proofs.YtbkpfhhhbhaecaaDoor
open Go.Vc


/-! ### plain -/
section
variable {Φ : PW} {p q : Option Addr} {cap cap2 : Nat} {l a b : List Int} {W w : World} {R G : List Own}

end
end Go.Proofs.YtbkpfhhhbhaecaaDoor
end

/-
  The law PlaceMoves, walked.
-/
section
set_option linter.unusedVariables false
set_option linter.unusedSimpArgs false
namespace Go.Proofs.YtbkpfhhhbhaecaaDoor
open Go.Vc


section
variable {Φ : PW} {p q : Option Addr} {cap cap2 : Nat} {l a b : List Int} {W w : World} {R G : List Own}

end
end Go.Proofs.YtbkpfhhhbhaecaaDoor
end

/-
  Keys of nodes, and what a node needs: walked.
-/
section
set_option linter.unusedVariables false
set_option linter.unusedSimpArgs false
namespace Go.Proofs.YtbkpfhhhbhaecaaDoor
open Go.Vc


/-- the cells of a node: 0 Op, 1 In, 8 Key, 9 Key2 -/
structure NodeC where
  n0 : Int
  n1P : Option Addr
  n1N : Nat
  n1C : Nat
  n2 : ByteArray
  n3 : Int
  n4P : Option Addr
  n4N : Nat
  n4C : Nat
  n5 : Int
  n6 : Int
  n7 : Int
  n8P : Option Addr
  n8N : Nat
  n8C : Nat
  n9P : Option Addr
  n9N : Nat
  n9C : Nat
  n10 : Int
  n11 : Int
  n12 : Int
  n13P : Option Addr
  n13N : Nat
  n13C : Nat
  n14P : Option Addr
  n14N : Nat
  n14C : Nat
  n15P : Option Addr
  n15N : Nat
  n15C : Nat

abbrev NodeC.cells (x : NodeC) : List Value := [.int .i64 x.n0, .slice x.n1P x.n1N x.n1C, .string x.n2, .int .i64 x.n3, .slice x.n4P x.n4N x.n4C, .int .i64 x.n5, .int .i64 x.n6, .int .i64 x.n7, .slice x.n8P x.n8N x.n8C, .slice x.n9P x.n9N x.n9C,
  .int .i64 x.n10, .int .i64 x.n11, .int .i64 x.n12, .slice x.n13P x.n13N x.n13C, .slice x.n14P x.n14N x.n14C, .slice x.n15P x.n15N x.n15C]
abbrev NodeC.v (x : NodeC) : Value := .agg #[.int .i64 x.n0, .slice x.n1P x.n1N x.n1C, .string x.n2, .int .i64 x.n3, .slice x.n4P x.n4N x.n4C, .int .i64 x.n5, .int .i64 x.n6, .int .i64 x.n7, .slice x.n8P x.n8N x.n8C, .slice x.n9P x.n9N x.n9C,
  .int .i64 x.n10, .int .i64 x.n11, .int .i64 x.n12, .slice x.n13P x.n13N x.n13C, .slice x.n14P x.n14N x.n14C, .slice x.n15P x.n15N x.n15C]

structure ColD where
  name : ByteArray
  type : Int
  unit : ByteArray
instance : Gv ColD := Gv.via (β := ByteArray × Int × ByteArray) (fun x => (x.name, x.type, x.unit)) (fun y => ⟨y.1, y.2.1, y.2.2⟩) (fun _ => rfl)

structure NodeD where
  op : Int
  inp : List Int
  src : ByteArray
  schema : Int
  exprs : Opq
  kind : Int
  size : Int
  step : Int
  key : List Int
  key2 : List Int
  before : Int
  after : Int
  keep : Int
  aggs : Opq
  seq : Opq
  cols : List ColD
instance : Gv NodeD := Gv.via (β := Int × List Int × ByteArray × Int × Opq × Int × Int × Int × List Int × List Int × Int × Int × Int × Opq × Opq × List ColD)
  (fun x => (x.op, x.inp, x.src, x.schema, x.exprs, x.kind, x.size, x.step, x.key, x.key2, x.before, x.after, x.keep, x.aggs, x.seq, x.cols))
  (fun y => ⟨y.1, y.2.1, y.2.2.1, y.2.2.2.1, y.2.2.2.2.1, y.2.2.2.2.2.1, y.2.2.2.2.2.2.1, y.2.2.2.2.2.2.2.1, y.2.2.2.2.2.2.2.2.1, y.2.2.2.2.2.2.2.2.2.1, y.2.2.2.2.2.2.2.2.2.2.1, y.2.2.2.2.2.2.2.2.2.2.2.1, y.2.2.2.2.2.2.2.2.2.2.2.2.1, y.2.2.2.2.2.2.2.2.2.2.2.2.2.1, y.2.2.2.2.2.2.2.2.2.2.2.2.2.2.1, y.2.2.2.2.2.2.2.2.2.2.2.2.2.2.2⟩) (fun _ => rfl)

/-- the cells stand for the node: its number, its inputs and its keys -/
structure NodeC.Of (x : NodeC) (d : NodeD) : Prop where
  op : x.n0 = d.op
  inp : x.n1N = d.inp.length
  key : x.n8N = d.key.length
  key2 : x.n9N = d.key2.length
def NodeC.At (x : NodeC) (d : NodeD) : PW := fun M w => Sl M w x.n1P d.inp ∧ Sl M w x.n8P d.key ∧ Sl M w x.n9P d.key2
instance instStableNodeAt (x : NodeC) (d : NodeD) : Stable (fun M w => x.At d M w) := by unfold NodeC.At; infer_instance
/-- the cells of a node that stands for plain data -/
theorem node_cells {M : List Nat} {w : World} {cs : List Value} {x : NodeD} (h : Gv.rep M w cs x) : ∃ c : NodeC, cs = c.cells ∧ c.Of x ∧ c.At x M w := by
  obtain ⟨_, _, rfl, ⟨rfl, g0⟩, _, _, rfl, ⟨p1, c1, rfl, _, _, s1⟩, _, _, rfl, ⟨rfl, _⟩, _, _, rfl, ⟨rfl, g3⟩, _, _, rfl, ⟨p4, c4, rfl, _⟩, _, _, rfl, ⟨rfl, g5⟩, _, _, rfl, ⟨rfl, g6⟩, _, _, rfl, ⟨rfl, g7⟩, _, _, rfl, ⟨p8, c8, rfl, _, _, s8⟩, _, _, rfl, ⟨p9, c9, rfl, _, _, s9⟩,
    _, _, rfl, ⟨rfl, g10⟩, _, _, rfl, ⟨rfl, g11⟩, _, _, rfl, ⟨rfl, g12⟩, _, _, rfl, ⟨p13, c13, rfl, _⟩, _, _, rfl, ⟨p14, c14, rfl, _⟩, p15, c15, rfl, _, _, s15⟩ := h
  exact ⟨⟨x.op, p1, _, c1, x.src, x.schema, p4, _, c4, x.kind, x.size, x.step, p8, _, c8, p9, _, c9, x.before, x.after, x.keep, p13, _, c13, p14, _, c14, p15, _, c15⟩, rfl, ⟨rfl, rfl, rfl, rfl⟩, s1, s8, s9⟩

/-! ### plain -/
def keyK (op inx : Int) : Nat :=
  if (decide (inx = 0) && (decide (op = 6) || decide (op = 7) || decide (op = 4) || decide (op = 5) || decide (op = 8))) = true then 1
  else if (decide (inx = 1) && (decide (op = 6) || decide (op = 7))) = true then 2 else 0
def keyL (d : NodeD) (inx : Int) : List Int := if keyK d.op inx = 1 then d.key else if keyK d.op inx = 2 then d.key2 else []
def keyB (d : NodeD) (inx : Int) : Bool := decide (keyK d.op inx ≠ 0)
abbrev zeroV : ValD := ⟨0, 0, ByteArray.mk #[]⟩
def valAt (row : List ValD) (i : Int) : ValD := if 0 ≤ i ∧ i < row.length then row.getD i.toNat zeroV else zeroV
def valsP (row : List ValD) (key : List Int) : List ValD := key.map (valAt row)
theorem val_mem {row : List ValD} {i : Int} : valAt row i = zeroV ∨ valAt row i ∈ row := by
  unfold valAt
  split
  · rename_i h
    right
    rw [List.getD_eq_getElem?_getD, List.getElem?_eq_getElem (by omega)]
    exact List.getElem_mem _
  · exact .inl rfl
theorem vals_text {row : List ValD} {key : List Int} (h : ∀ v ∈ row, v.text.size ≤ 300) : ∀ v ∈ valsP row key, v.text.size ≤ 300 := fun v hv => by
  obtain ⟨i, _, rfl⟩ := List.mem_map.1 hv
  rcases val_mem (row := row) (i := i) with e | e
  · rw [e]; decide
  · exact h _ e
theorem vals_step {row : List ValD} {key : List Int} {i : Nat} (h : i < key.length) : valsP row (key.take (i + 1)) = valsP row (key.take i) ++ [valAt row key[i]] := by
  unfold valsP
  rw [List.take_succ_eq_append_getElem h, List.map_append]; rfl
/-! ### walked -/
abbrev ValD.cells (x : ValD) : List Value := [.int .i64 x.kind, .int .i64 x.num, .string x.text]
theorem val_rep {M : List Nat} {w : World} {v : ValD} (h : (I64 v.kind ∧ I64 v.num) ∧ v.text.size ≤ maxLen) : Gv.rep M w v.cells v :=
  ⟨[.int .i64 v.kind], [.int .i64 v.num, .string v.text], rfl, ⟨rfl, h.1.1⟩, [.int .i64 v.num], [.string v.text], rfl, ⟨rfl, h.1.2⟩, rfl, h.2⟩
theorem val_ok {row : List ValD} {i : Int} (h : ∀ v ∈ row, (I64 v.kind ∧ I64 v.num) ∧ v.text.size ≤ maxLen) : (I64 (valAt row i).kind ∧ I64 (valAt row i).num) ∧ (valAt row i).text.size ≤ maxLen := by
  rcases val_mem (row := row) (i := i) with e | e
  · rw [e]; unfold I64; decide
  · exact h _ e

/-- append one value that was made -/
theorem pushV {W w : World} {R G : List Own} {PS : PW} [Stable PS] {op : Option Addr} {oc : Nat} {ds : List Value} {o : List ValD} {x : ValD} {kb : Nat} (hx : (I64 x.kind ∧ I64 x.num) ∧ x.text.size ≤ maxLen) (ho : o.length < 10000000)
    (cx : Ctx W w (.blk kb x.cells 99 :: .buf op o.length oc ds 99 3 :: R ++ G) (fun M w => PS M w ∧ Elems M w ds o)) :
    ∃ p c w', Sem.run Tryd.prog (builtin Builtin.append #[40, 40] 40 #[false, false] #[.slice op o.length oc, .slice (some ⟨kb, 0, none⟩) 1 1]) w = .ok (.value (.slice p (o ++ [x]).length c)) w' ∧ Ctx W w' (.buf p (o ++ [x]).length c (ds ++ x.cells) 99 3 :: R ++ G) (fun M w => PS M w ∧ Elems M w (ds ++ x.cells) (o ++ [x])) := by
  obtain ⟨p', cap', w', hrun, _, cx'⟩ := Ctx.app1 (P := Tryd.prog) (ts := 40) (ty := 40) (kb := #[false, false]) (size := 3) (bytes := 32) cx (by kernel_rfl) (by omega) rfl rfl (by omega) (by omega)
  have e : o.length + 1 = (o ++ [x]).length := by simp
  rw [e] at hrun cx'
  exact ⟨p', cap', w', hrun, cx'.weak fun M w h => ⟨h.1, h.2.snoc (val_rep hx)⟩⟩

/-- a block as an empty slice with room for so many elements -/
theorem toRoom {W w : World} {S : List Own} {Φ : PW} [Stable Φ] {b : Nat} {cs : List Value} {t : TypeId} (c : Ctx W w (.blk b cs t :: S) Φ) (n size : Nat) (hl : cs.length = n * size) (hm : n ≤ maxLen) :
    Ctx W w (.buf (some ⟨b, 0, none⟩) 0 n [] t size :: S) Φ := by
  refine c.upd (k := 0) rfl (Chg.refl _ _) (by simp [Own.dom]) (by simp [Own.dom]) ?_
  exact ⟨by simp, .inr ⟨b, n, cs.toArray, rfl, Nat.zero_le _, c.blk 0 rfl, Nat.zero_le _, hm, by simpa using hl, by simp⟩⟩

section
variable {Φ : PW} {p q : Option Addr} {cap cap2 : Nat} {r a b : List ValD} {W w : World} {R G : List Own}

theorem CloneZ_to [Stable Φ] {l : List Int} [hΦ : Has Φ (fun M w => Sl M w p l)] (hlen : l.length ≤ 1000000) : GivesSl Φ Tryd.prog F.slices_Clone_int_int #[.slice p l.length cap] l id :=
  ⟨fun W w S c => (CloneZ_in (Φ := Φ) (p := p) (cap := cap) (fun M w h => hΦ.go M w h) (by omega)).use c fun p1 cap1 ds w cx => by
    obtain ⟨c2, hs, _, h2, h3⟩ := Ctx.freeze (α := Int) cx cx.phi.2
    exact ⟨p1, cap1, rfl, h2, h3, (c2.add hs).weak fun M w h => ⟨h.1.1, h.2⟩⟩⟩

theorem Key_to [Stable Φ] {x : NodeC} {d : NodeD} {inx : Int} (hx : x.Of d) [hA : Has Φ (fun M w => x.At d M w)] (l1 : d.key.length ≤ 1000000) (l2 : d.key2.length ≤ 1000000) (c : Ctx W w (R ++ G) Φ) {K : Option Addr → Nat → Nat → Bool → List Own → PW → Prop}
    (h : ∀ p' c', (keyL d inx).length ≤ c' → c' ≤ maxLen → There p' (keyL d inx).length → Stable (fun M w => Φ M w ∧ Sl M w p' (keyL d inx)) → K p' (keyL d inx).length c' (keyB d inx) R (fun M w => Φ M w ∧ Sl M w p' (keyL d inx))) :
    Calls Tryd.prog F.place_Key #[x.v, .int .i64 inx] w fun e w' => ∃ p' k c' b, e = .returned (.tuple #[.slice p' k c', .bool b]) ∧ ∃ R' Φ', Stable Φ' ∧ Ctx W w' (R' ++ G) Φ' ∧ K p' k c' b R' Φ' := by
  refine (Bplace_Key_run x.n0 x.n1P x.n1N x.n1C x.n2 x.n3 x.n4P x.n4N x.n4C x.n5 x.n6 x.n7 x.n8P x.n8N x.n8C x.n9P x.n9N x.n9C x.n10 x.n11 x.n12 x.n13P x.n13N x.n13C x.n14P x.n14N x.n14C x.n15P x.n15N x.n15C inx (J := fun v w' => ∃ p' k c' b, v = .tuple #[.slice p' k c', .bool b] ∧ ∃ R' Φ', Stable Φ' ∧ Ctx W w' (R' ++ G) Φ' ∧ K p' k c' b R' Φ') (R := R ++ G) c ?_).mono fun e w' ⟨v, he, p', k, c', m, hv, rest⟩ => ⟨p', k, c', m, by rw [he, hv], rest⟩
  clear c
  obtain ⟨h0, _, h8, h9⟩ := hx
  have hA1 : Has Φ (fun M w => Sl M w x.n8P d.key) := ⟨fun M w h => (hA.go M w h).2.1⟩
  have hA2 : Has Φ (fun M w => Sl M w x.n9P d.key2) := ⟨fun M w h => (hA.go M w h).2.2⟩
  rw [h0, h8, h9]
  refine fun _ w G2 cx => fun w G2 cx => Br.intro (fun h1 => fun w G2 cx => ?_) (fun h1 => fun w G2 cx => Br.intro (fun h2 => fun w G2 cx => ?_) (fun h2 => fun w G2 cx => ?_))
  · have ek : keyK d.op inx = 1 := by unfold keyK; rw [if_pos h1]
    have el : keyL d inx = d.key := by unfold keyL; rw [if_pos ek]
    have eb : keyB d inx = true := by unfold keyB; rw [ek]; rfl
    rw [el, eb] at h
    refine (CloneZ_to (Φ := Φ) (l := d.key) l1).tot cx fun p' c' g1 g2 g3 st => fun w G2 cx => ⟨p', _, c', true, rfl, R, _, st, cx.left, h p' c' g1 g2 g3 st⟩
  · have ek : keyK d.op inx = 2 := by unfold keyK; rw [if_neg (by rw [h1]; simp), if_pos h2]
    have el : keyL d inx = d.key2 := by unfold keyL; rw [if_neg (by omega), if_pos ek]
    have eb : keyB d inx = true := by unfold keyB; rw [ek]; rfl
    rw [el, eb] at h
    refine (CloneZ_to (Φ := Φ) (l := d.key2) l2).tot cx fun p' c' g1 g2 g3 st => fun w G2 cx => ⟨p', _, c', true, rfl, R, _, st, cx.left, h p' c' g1 g2 g3 st⟩
  · have ek : keyK d.op inx = 0 := by unfold keyK; rw [if_neg (by rw [h1]; simp), if_neg (by rw [h2]; simp)]
    have el : keyL d inx = [] := by unfold keyL; rw [if_neg (by omega), if_neg (by omega)]
    have eb : keyB d inx = false := by unfold keyB; rw [ek]; rfl
    rw [el, eb] at h
    exact ⟨none, 0, 0, false, rfl, R, _, inferInstance, cx.left.weak fun M w h => ⟨h, Sl.nil⟩, h none 0 (Nat.le_refl _) (by decide) (fun h => by simp at h) inferInstance⟩

def needP (d : NodeD) (inx bucket : Int) (r : List ValD) : Int := if keyB d inx = true then bucketP (valsP r (keyL d inx)) else bucket

set_option maxHeartbeats 1000000 in
theorem Need_in [Stable Φ] [hT : Has Φ TabI] {x : NodeC} {d : NodeD} {inx bucket : Int} (hx : x.Of d) [hA : Has Φ (fun M w => x.At d M w)] [hΦ : Has Φ (fun M w => Sl M w p r)] (l1 : d.key.length ≤ 10000) (l2 : d.key2.length ≤ 10000) (hr : r.length ≤ maxLen) (ht : ∀ v ∈ r, v.text.size ≤ 300) :
    GivesIn Φ Tryd.prog F.place_Need #[x.v, .int .i64 inx, .int .i64 bucket, .slice p r.length cap] (.int .i64 (needP d inx bucket r)) := by
  refine .there (fun M w h => (hΦ.go M w h).there) fun hta => ?_
  refine .know (fun M w h => sl_i64 (hΦ.go M w h)) fun hi64 => ?_
  refine gives_in (Bplace_Need_run x.n0 x.n1P x.n1N x.n1C x.n2 x.n3 x.n4P x.n4N x.n4C x.n5 x.n6 x.n7 x.n8P x.n8N x.n8C x.n9P x.n9N x.n9C x.n10 x.n11 x.n12 x.n13P x.n13N x.n13C x.n14P x.n14N x.n14C x.n15P x.n15N x.n15C inx bucket p r.length cap) fun W R => ?_
  have hL : (keyL d inx).length ≤ 10000 := by
    unfold keyL
    split
    · exact l1
    · split
      · exact l2
      · exact Nat.zero_le _
  refine fun _ w G cx => Key_to (x := x) (d := d) hx (by omega) (by omega) cx fun q c1 e1 e2 htb st1 => ?_
  clear cx
  unfold needP
  obtain ⟨key, hkey⟩ : ∃ key, keyL d inx = key := ⟨_, rfl⟩
  rw [hkey] at hL e1 htb st1 ⊢
  refine Br.intro (fun h => fun w G cx => ⟨?_, cx.left.fst⟩) (fun h => ⟨⟨by omega, by omega, by omega, by omega⟩, fun kb => ?_⟩)
  · rw [if_neg (by rw [show keyB d inx = false by simpa using h]; simp)]
  rw [if_pos (show keyB d inx = true by simpa using h)]
  have hΦ2 : ∀ M w, (Φ M w ∧ Sl M w q key) → Sl M w p r := fun M w h => hΦ.go M w h.1
  refine exI_mk (fun op on oc iI R' Φ' m => ∃ i ds, iI = (i : Nat) ∧ i ≤ key.length ∧ on = (valsP r (key.take i)).length ∧ R' = .buf op on oc ds 99 3 :: R ∧ Φ' = (fun M w => (Φ M w ∧ Sl M w q key) ∧ Elems M w ds (valsP r (key.take i))) ∧ m = key.length - i) ⟨⟨.buf (some ⟨kb, 0, none⟩) 0 key.length [] 99 3 :: R, (fun M w => (Φ M w ∧ Sl M w q key) ∧ Elems M w [] ([] : List ValD)), _, inferInstance, fun w G cx => ((toRoom cx key.length 3 (by simp) (by unfold maxLen; omega)).weak fun M w h => ⟨h, Elems.nil⟩), 0, [], rfl, Nat.zero_le _, rfl, rfl, rfl, rfl⟩, ?_⟩
  rintro op on oc iI R1 Φ1 m _ ⟨i, ds, rfl, hi, rfl, rfl, rfl, rfl⟩
  have hil : (valsP r (key.take i)).length = i := by unfold valsP; rw [List.length_map, List.length_take]; omega
  refine Br.intro (fun hlt => ?_) (fun hge => fun w G cx => ?_)
  · have hlt : i < key.length := by have := of_decide_eq_true hlt; omega
    obtain ⟨gk, ok, rfl⟩ := htb (by omega)
    have rd : ∀ {S : List Own} {w : World}, Ctx W w S (fun M w => (Φ M w ∧ Sl M w (some ⟨gk, ok, none⟩) key) ∧ Elems M w ds (valsP r (key.take i))) → w.cell? ⟨gk, ok + (i : Int).toNat, none⟩ = some (.int .i64 key[i]) := fun cx => by
      rw [Int.toNat_natCast]; exact sl_int cx.phi.1.2 hlt
    have stp := vals_step (row := r) hlt
    have hok := val_ok (i := key[i]) hi64
    refine ⟨by omega, ptrK_intro gk ok rfl fun w G cx => ⟨key[i], rd cx, fun _ w G cx => Br.intro (fun h => ?_) (fun h => fun kb w G cx => ?_)⟩⟩
    · rw [Bool.and_eq_true] at h
      have h1 := of_decide_eq_true h.1
      have h2 := of_decide_eq_true h.2
      obtain ⟨j, hj⟩ : ∃ j : Nat, key[i] = j := ⟨key[i].toNat, by omega⟩
      have hjl : j < r.length := by omega
      have hv : valAt r key[i] = r[j] := by
        unfold valAt
        rw [if_pos ⟨h1, h2⟩, hj, Int.toNat_natCast, List.getD_eq_getElem?_getD, List.getElem?_eq_getElem hjl]; rfl
      obtain ⟨gr, or, rfl⟩ := hta (by omega)
      refine ⟨⟨h1, h2⟩, ptrK_intro gr or rfl fun w G cx => ⟨(valAt r key[i]).kind, (valAt r key[i]).num, (valAt r key[i]).text, ?_, fun kb w G cx => ?_⟩⟩
      · rw [hv, hj, Int.toNat_natCast]
        exact sl_val (hΦ2 _ _ cx.phi.1) hjl
      · obtain ⟨p', c', w', hrun, cx'⟩ := pushV (x := valAt r key[i]) hok (by omega) cx
        rw [← stp] at hrun cx'
        exact ⟨p', _, c', w', hrun, _, _, inferInstance, cx', by unfold I64; omega, _, _, key.length - (i + 1), inferInstance, fun w G cx => cx, ⟨i + 1, _, rfl, hlt, rfl, rfl, rfl, rfl⟩, by omega⟩
    · have hv : valAt r key[i] = zeroV := by
        unfold valAt
        rw [if_neg fun e => by rw [decide_eq_true e.1, decide_eq_true e.2] at h; cases h]
      have cx : Ctx W w (.blk kb (valAt r key[i]).cells 99 :: .buf op (valsP r (key.take i)).length oc ds 99 3 :: R ++ G) (fun M w => (Φ M w ∧ Sl M w (some ⟨gk, ok, none⟩) key) ∧ Elems M w ds (valsP r (key.take i))) := by rw [hv]; exact cx
      obtain ⟨p', c', w', hrun, cx'⟩ := pushV (x := valAt r key[i]) hok (by omega) cx
      rw [← stp] at hrun cx'
      exact ⟨p', _, c', w', hrun, _, _, inferInstance, cx', by unfold I64; omega, _, _, key.length - (i + 1), inferInstance, fun w G cx => cx, ⟨i + 1, _, rfl, hlt, rfl, rfl, rfl, rfl⟩, by omega⟩
  · have hge : i = key.length := by have := of_decide_eq_false hge; omega
    subst hge
    rw [List.take_length] at cx ⊢
    obtain ⟨cx3, hs, _, k1, k2⟩ := Ctx.freeze (α := ValD) cx cx.phi.2
    exact (Bucket_in (Φ := fun M w => ((Φ M w ∧ Sl M w q key) ∧ Elems M w ds (valsP r key)) ∧ Sl M w op (valsP r key)) (p := op) (cap := oc) (r := valsP r key) (by unfold valsP; rw [List.length_map]; exact hL) (fun v hv => by have := vals_text (key := key) ht v hv; omega)).toI (cx3.add hs) fun w G cx => ⟨rfl, cx.left.weak fun M w h => h.1.1.1⟩
end
end Go.Proofs.YtbkpfhhhbhaecaaDoor
end

/-
  The law PlaceKeys, walked.
-/
section
set_option linter.unusedVariables false
set_option linter.unusedSimpArgs false
namespace Go.Proofs.YtbkpfhhhbhaecaaDoor
open Go.Vc


section
variable {Φ : PW} {p q : Option Addr} {cap cap2 : Nat} {a b : List ValD}

end
end Go.Proofs.YtbkpfhhhbhaecaaDoor
end

/-
  The iterator of the parts of a list.
-/
section
set_option linter.unusedVariables false
set_option linter.unusedSimpArgs false
namespace Go.Proofs.YtbkpfhhhbhaecaaDoor
open Go Go.RowKit Go.Vc

attribute [local go_sem] Oper.semAt_some

def partsN (n : Nat) : Nat := (n + 7) / 8
abbrev partV (g o n c k : Nat) : Value := .slice (some ⟨g, o + 8 * k * 3, none⟩) ((min (8 * (k : Int) + 8) n).toNat - 8 * k) (c - 8 * k)

set_option maxRecDepth 100000 in
set_option maxHeartbeats 2000000 in
theorem batches_iter (kb g o n c : Nat) (hn : n ≤ c) (hc : c ≤ maxLen) (hn2 : n ≤ 1000000) :
    Iter Tryd.prog F.place_batches_1 #[.pointer (some ⟨kb, 0, none⟩)] (partsN n) (fun k => #[partV g o n c k]) (fun w => w.cell? ⟨kb, 0, none⟩ = some (.slice (some ⟨g, o, none⟩) n c)) := by
  intro l J W hX hY h0
  refine callsIn_of_wp Tryd.func107 rfl trivial ?_ rfl
  simp only [Tryd.ntmps107, List.size_toArray, List.length_cons, List.length_nil, Nat.reduceAdd, Nat.reduceSub, Array.replicate_succ, Array.replicate_zero, List.push_toArray, List.append_toArray, List.nil_append, List.cons_append]
  gi_wp2
  gi_loopw [3] (fun i wr => ∃ k : Nat, k ≤ partsN n ∧ i = .int .i64 (8 * k : Nat) ∧ J k wr)
    (fun i _ => n + 8 - (intOf i).toNat)
  case atStart => exact ⟨0, Nat.zero_le _, rfl, h0⟩
  case round =>
    obtain ⟨k, hk, rfl, hJs⟩ := hrel
    have hcx := hX _ _ hJs
    by_cases hlt : k < partsN n
    · obtain ⟨fn, tmps, assign, body, hy, hR⟩ := hY _ _ hJs hlt
      have h8 : (8 : Int) * k < n := by unfold partsN at hlt; omega
      gi_wp2
      refine ⟨rfl, hR.mono ?_⟩
      rintro e W3 ⟨rfl, hJ3⟩
      gi_wp2
      go_roundw
      case rel => exact ⟨k + 1, hlt, by simp; omega, hJ3⟩
      case measure => simp [intOf]; omega
    · have h8 : ¬ (8 : Int) * k < n := by unfold partsN at hlt; omega
      obtain rfl : k = partsN n := by omega
      gi_wp2
      go_end0
      exact ⟨⟨_, rfl⟩, hJs⟩

set_option maxRecDepth 100000 in
set_option maxHeartbeats 2000000 in
theorem batches_iter0 (kb c : Nat) (p : Option Addr) (xs : Nat → Array Value) :
    Iter Tryd.prog F.place_batches_1 #[.pointer (some ⟨kb, 0, none⟩)] 0 xs (fun w => w.cell? ⟨kb, 0, none⟩ = some (.slice p 0 c)) := by
  intro l J W hX hY h0
  refine callsIn_of_wp Tryd.func107 rfl trivial ?_ rfl
  simp only [Tryd.ntmps107, List.size_toArray, List.length_cons, List.length_nil, Nat.reduceAdd, Nat.reduceSub, Array.replicate_succ, Array.replicate_zero, List.push_toArray, List.append_toArray, List.nil_append, List.cons_append]
  gi_wp2
  gi_loopw [3] (fun i wr => i = .int .i64 0 ∧ J 0 wr) (fun _ _ => 0)
  case atStart => exact ⟨rfl, h0⟩
  case round =>
    obtain ⟨rfl, hJs⟩ := hrel
    have hcx := hX _ _ hJs
    gi_wp2
    go_end0
    exact ⟨⟨_, rfl⟩, hJs⟩

theorem batches_iter' {kb g o n c : Nat} {p : Option Addr} (hp : 0 < n → p = some ⟨g, o, none⟩) (hn : n ≤ c) (hc : c ≤ maxLen) (hn2 : n ≤ 1000000) :
    Iter Tryd.prog F.place_batches_1 #[.pointer (some ⟨kb, 0, none⟩)] (partsN n) (fun k => #[partV g o n c k]) (fun w => w.cell? ⟨kb, 0, none⟩ = some (.slice p n c)) := by
  rcases Nat.eq_zero_or_pos n with h | h
  · subst h
    exact batches_iter0 kb c p _
  · rw [hp h]
    exact batches_iter kb g o n c hn hc hn2
end Go.Proofs.YtbkpfhhhbhaecaaDoor
end

/-
  The conditions of the walks of some functions, one formula each; 'B<f>_run' says that they suffice. The formulas are printed by a program; the kernel compares them with the functions' code.
-/
section
namespace Go.Proofs.YtbkpfhhhbhaecaaDoor
set_option linter.unusedVariables false
set_option linter.unusedSimpArgs false
set_option maxRecDepth 100000
open Go.Vc

/-- errataref28.Equal -/
-- loop at region 4: 5 i; blocks 
def Berrataref28_Equal (aP : Option Addr) (aN aC : Nat) (bP : Option Addr) (bN bC : Nat) (W : World) (R : List Own) (Φ : PW) (J : Value → World → Prop) : Prop :=
  Br (decide ((↑aN : Int) ≠ (↑bN : Int))) (∀ (w0 : World) (R1 : List Own), Ctx W w0 (R ++ R1) Φ → J (Value.bool false) w0) (exI fun (I2 : Int → List Own → PW → Nat → Prop) => (∃ (R3 : List
  Own), ∃ (Φ4 : PW), ∃ (k5 : Nat), Stable Φ4 ∧ (∀ (w6 : World) (R7 : List Own), Ctx W w6 (R ++ R7) Φ → Ctx W w6 (R3 ++ R7) Φ4) ∧ I2 0 R3 Φ4 k5) ∧ ∀ (n8 : Int) (R9 : List Own) (I10 : List Nat
  → World → Prop) (k11 : Nat), Stable I10 → I2 n8 R9 I10 k11 → Br (decide (n8 < (↑aN : Int))) (∃ (R12 : List Own), ∃ (Φ13 : PW), Stable Φ13 ∧ (∀ (w14 : World) (R15 : List Own), Ctx W w14 (R9
  ++ R15) I10 → Ctx W w14 (R12 ++ R15) Φ13) ∧ (0 ≤ n8 ∧ n8 < (↑aN : Int)) ∧ ptrK none aP fun (k16 k17 : Nat) => (0 ≤ n8 ∧ n8 < (↑bN : Int)) ∧ ptrK none bP fun (k18 k19 : Nat) => ∃ (n20 :
  Int), ∃ (p21 : Option Addr), ∃ (k22 : Nat), ∃ (k23 : Nat), ∃ (n24 : Int), (∀ (w25 : World) (R26 : List Own), Ctx W w25 (R12 ++ R26) Φ13 → ∃ (n27 : Int), ∃ (p28 : Option Addr), ∃ (k29 :
  Nat), ∃ (k30 : Nat), ∃ (n31 : Int), RowAt w25 k16 (k17 + n8.toNat * 3) [Value.int IntKind.i64 n27, Value.slice p28 k29 k30, Value.int IntKind.i64 n31] ∧ Value.agg #[Value.int IntKind.i64
  n27, Value.slice p28 k29 k30, Value.int IntKind.i64 n31] = Value.agg #[Value.int IntKind.i64 n20, Value.slice p21 k22 k23, Value.int IntKind.i64 n24]) ∧ ∃ (n32 : Int), ∃ (p33 : Option
  Addr), ∃ (k34 : Nat), ∃ (k35 : Nat), ∃ (n36 : Int), (∀ (w37 : World) (R38 : List Own), Ctx W w37 (R12 ++ R38) Φ13 → ∃ (n39 : Int), ∃ (p40 : Option Addr), ∃ (k41 : Nat), ∃ (k42 : Nat), ∃
  (n43 : Int), RowAt w37 k18 (k19 + n8.toNat * 3) [Value.int IntKind.i64 n39, Value.slice p40 k41 k42, Value.int IntKind.i64 n43] ∧ Value.agg #[Value.int IntKind.i64 n39, Value.slice p40 k41
  k42, Value.int IntKind.i64 n43] = Value.agg #[Value.int IntKind.i64 n32, Value.slice p33 k34 k35, Value.int IntKind.i64 n36]) ∧ ∀ (w44 : World) (R45 : List Own), Ctx W w44 (R9 ++ R45) I10 →
  Calls Tryd.prog F.errataref28_Compare #[Value.agg #[Value.int IntKind.i64 n20, Value.slice p21 k22 k23, Value.int IntKind.i64 n24], Value.agg #[Value.int IntKind.i64 n32, Value.slice p33
  k34 k35, Value.int IntKind.i64 n36]] w44 fun (e46 : Ending) (w47 : World) => ∃ (n48 : Int), e46 = Ending.returned (Value.int IntKind.i64 n48) ∧ ∃ (R49 : List Own), ∃ (Φ50 : PW), Stable Φ50
  ∧ Ctx W w47 (R49 ++ R45) Φ50 ∧ Br (decide (n48 ≠ 0)) (∀ (w51 : World) (R52 : List Own), Ctx W w51 (R49 ++ R52) Φ50 → J (Value.bool false) w51) ((0 ≤ n8 ∧ n8 < (↑aN : Int)) ∧ ptrK none aP
  fun (k53 k54 : Nat) => (0 ≤ n8 ∧ n8 < (↑bN : Int)) ∧ ptrK none bP fun (k55 k56 : Nat) => ∀ (w57 : World) (R58 : List Own), Ctx W w57 (R49 ++ R58) Φ50 → ∃ (n59 : Int), w57.cell? (Addr.mk k53
  (k54 + n8.toNat * 3 + 2) none) = some (Value.int IntKind.i64 n59) ∧ ∀ (w60 : World) (R61 : List Own), Ctx W w60 (R49 ++ R61) Φ50 → ∃ (n62 : Int), w60.cell? (Addr.mk k55 (k56 + n8.toNat * 3
  + 2) none) = some (Value.int IntKind.i64 n62) ∧ Br (decide (n59 ≠ n62)) (∀ (w63 : World) (R64 : List Own), Ctx W w63 (R49 ++ R64) Φ50 → J (Value.bool false) w63) (I64 (n8 + 1) ∧ ∃ (R65 :
  List Own), ∃ (Φ66 : PW), ∃ (k67 : Nat), Stable Φ66 ∧ (∀ (w68 : World) (R69 : List Own), Ctx W w68 (R49 ++ R69) Φ50 → Ctx W w68 (R65 ++ R69) Φ66) ∧ I2 (n8 + 1) R65 Φ66 k67 ∧ k67 < k11))) (∀
  (w70 : World) (R71 : List Own), Ctx W w70 (R9 ++ R71) I10 → J (Value.bool true) w70))

theorem Berrataref28_Equal_run (aP : Option Addr) (aN aC : Nat) (bP : Option Addr) (bN bC : Nat) {W w : World} {R : List Own} {Φ : PW} [Stable Φ] {J : Value → World → Prop} (c : Ctx W w R Φ) (h : Berrataref28_Equal aP aN aC bP bN bC W R Φ J) : Calls Tryd.prog F.errataref28_Equal #[.slice aP aN aC, .slice bP bN bC] w fun e w' => ∃ v, e = .returned v ∧ J v w' :=
  vcFS_sound (H := { keep := some [0, 1, 4, 5, 10, 14, 39], stages := [(6, [.held [(0, true), (1, true), (4, true), (5, true), (2, true), (6, true), (3, true), (7, true)], .stage [] (some 8), .stage [9, 10, 11, 12, 16, 17, 13, 18, 14, 19, 15, 20, 21, 22] none])], loops := [(4, [(5, .one (.int .i64))], [])] }) (by rw [show vcFS Tryd.prog W { keep := some [0, 1, 4, 5, 10, 14, 39], stages := [(6, [.held [(0, true), (1, true), (4, true), (5, true), (2, true), (6, true), (3, true), (7, true)], .stage [] (some 8), .stage [9, 10, 11, 12, 16, 17, 13, 18, 14, 19, 15, 20, 21, 22] none])], loops := [(4, [(5, .one (.int .i64))], [])] } F.errataref28_Equal #[.slice aP aN aC, .slice bP bN bC] R Φ J = Berrataref28_Equal aP aN aC bP bN bC W R Φ J by kernel_rfl]; exact h) c

/-- errataref28.Compare -/
-- known blocks: 2 a, 3 b
def Berrataref28_Compare (a0 : Int) (a1P : Option Addr) (a1N a1C : Nat) (a2 : Int) (b0 : Int) (b1P : Option Addr) (b1N b1C : Nat) (b2 : Int) (W : World) (R : List Own) (Φ : PW) (J : Value → World → Prop) : Prop :=
  ∀ (b b : Nat), Br (decide (a0 < b0)) (∀ (w0 : World) (R1 : List Own), Ctx W w0 (R ++ R1) Φ → J (Value.int IntKind.i64 (-1)) w0) (Br (decide (b0 < a0)) (∀ (w2 : World) (R3 : List Own), Ctx W
  w2 (R ++ R3) Φ → J (Value.int IntKind.i64 1) w2) (∀ (w4 : World) (R5 : List Own), Ctx W w4 (R ++ R5) Φ → Calls Tryd.prog F.errataref03_CompareRows #[Value.slice a1P a1N a1C, Value.slice b1P
  b1N b1C] w4 fun (e6 : Ending) (w7 : World) => ∃ (n8 : Int), e6 = Ending.returned (Value.int IntKind.i64 n8) ∧ ∃ (R9 : List Own), ∃ (Φ10 : PW), Stable Φ10 ∧ Ctx W w7 (R9 ++ R5) Φ10 ∧ ∀ (w11
  : World) (R12 : List Own), Ctx W w11 (R9 ++ R12) Φ10 → J (Value.int IntKind.i64 n8) w11))

theorem Berrataref28_Compare_run (a0 : Int) (a1P : Option Addr) (a1N a1C : Nat) (a2 : Int) (b0 : Int) (b1P : Option Addr) (b1N b1C : Nat) (b2 : Int) {W w : World} {R : List Own} {Φ : PW} [Stable Φ] {J : Value → World → Prop} (c : Ctx W w R Φ) (h : Berrataref28_Compare a0 a1P a1N a1C a2 b0 b1P b1N b1C b2 W R Φ J) : Calls Tryd.prog F.errataref28_Compare #[.agg #[.int .i64 a0, .slice a1P a1N a1C, .int .i64 a2], .agg #[.int .i64 b0, .slice b1P b1N b1C, .int .i64 b2]] w fun e w' => ∃ v, e = .returned v ∧ J v w' :=
  vcFS_sound (H := { keep := some [2, 3, 4, 9, 14], track := [2, 3] }) (by rw [show vcFS Tryd.prog W { keep := some [2, 3, 4, 9, 14], track := [2, 3] } F.errataref28_Compare #[.agg #[.int .i64 a0, .slice a1P a1N a1C, .int .i64 a2], .agg #[.int .i64 b0, .slice b1P b1N b1C, .int .i64 b2]] R Φ J = Berrataref28_Compare a0 a1P a1N a1C a2 b0 b1P b1N b1C b2 W R Φ J by kernel_rfl]; exact h) c

/-- errataref03.CompareRows -/
-- loop at region 2: 5 i; blocks 
def Berrataref03_CompareRows (aP : Option Addr) (aN aC : Nat) (bP : Option Addr) (bN bC : Nat) (W : World) (R : List Own) (Φ : PW) (J : Value → World → Prop) : Prop :=
  exI fun (I0 : Int → List Own → PW → Nat → Prop) => (∃ (R1 : List Own), ∃ (Φ2 : PW), ∃ (k3 : Nat), Stable Φ2 ∧ (∀ (w4 : World) (R5 : List Own), Ctx W w4 (R ++ R5) Φ → Ctx W w4 (R1 ++ R5) Φ2)
  ∧ I0 0 R1 Φ2 k3) ∧ ∀ (n6 : Int) (R7 : List Own) (I8 : List Nat → World → Prop) (k9 : Nat), Stable I8 → I0 n6 R7 I8 k9 → ∀ (w10 : World) (R11 : List Own), Ctx W w10 (R7 ++ R11) I8 → Br
  (decide (n6 < (↑aN : Int)) && decide (n6 < (↑bN : Int))) (∃ (R12 : List Own), ∃ (Φ13 : PW), Stable Φ13 ∧ (∀ (w14 : World) (R15 : List Own), Ctx W w14 (R7 ++ R15) I8 → Ctx W w14 (R12 ++ R15)
  Φ13) ∧ (0 ≤ n6 ∧ n6 < (↑aN : Int)) ∧ ptrK none aP fun (k16 k17 : Nat) => (0 ≤ n6 ∧ n6 < (↑bN : Int)) ∧ ptrK none bP fun (k18 k19 : Nat) => ∃ (n20 : Int), ∃ (n21 : Int), ∃ (s22 : ByteArray),
  (∀ (w23 : World) (R24 : List Own), Ctx W w23 (R12 ++ R24) Φ13 → ∃ (n25 : Int), ∃ (n26 : Int), ∃ (s27 : ByteArray), RowAt w23 k16 (k17 + n6.toNat * 3) [Value.int IntKind.i64 n25, Value.int
  IntKind.i64 n26, Value.string s27] ∧ Value.agg #[Value.int IntKind.i64 n25, Value.int IntKind.i64 n26, Value.string s27] = Value.agg #[Value.int IntKind.i64 n20, Value.int IntKind.i64 n21,
  Value.string s22]) ∧ ∃ (n28 : Int), ∃ (n29 : Int), ∃ (s30 : ByteArray), (∀ (w31 : World) (R32 : List Own), Ctx W w31 (R12 ++ R32) Φ13 → ∃ (n33 : Int), ∃ (n34 : Int), ∃ (s35 : ByteArray),
  RowAt w31 k18 (k19 + n6.toNat * 3) [Value.int IntKind.i64 n33, Value.int IntKind.i64 n34, Value.string s35] ∧ Value.agg #[Value.int IntKind.i64 n33, Value.int IntKind.i64 n34, Value.string
  s35] = Value.agg #[Value.int IntKind.i64 n28, Value.int IntKind.i64 n29, Value.string s30]) ∧ ∀ (w36 : World) (R37 : List Own), Ctx W w36 (R7 ++ R37) I8 → Calls Tryd.prog
  F.errataref03_Compare #[Value.agg #[Value.int IntKind.i64 n20, Value.int IntKind.i64 n21, Value.string s22], Value.agg #[Value.int IntKind.i64 n28, Value.int IntKind.i64 n29, Value.string
  s30]] w36 fun (e38 : Ending) (w39 : World) => ∃ (n40 : Int), e38 = Ending.returned (Value.int IntKind.i64 n40) ∧ ∃ (R41 : List Own), ∃ (Φ42 : PW), Stable Φ42 ∧ Ctx W w39 (R41 ++ R37) Φ42 ∧
  Br (decide (n40 ≠ 0)) (∀ (w43 : World) (R44 : List Own), Ctx W w43 (R41 ++ R44) Φ42 → J (Value.int IntKind.i64 n40) w43) (I64 (n6 + 1) ∧ ∃ (R45 : List Own), ∃ (Φ46 : PW), ∃ (k47 : Nat),
  Stable Φ46 ∧ (∀ (w48 : World) (R49 : List Own), Ctx W w48 (R41 ++ R49) Φ42 → Ctx W w48 (R45 ++ R49) Φ46) ∧ I0 (n6 + 1) R45 Φ46 k47 ∧ k47 < k9)) (Br (decide ((↑aN : Int) < (↑bN : Int))) (∀
  (w50 : World) (R51 : List Own), Ctx W w50 (R7 ++ R51) I8 → J (Value.int IntKind.i64 (-1)) w50) (Br (decide ((↑bN : Int) < (↑aN : Int))) (∀ (w52 : World) (R53 : List Own), Ctx W w52 (R7 ++
  R53) I8 → J (Value.int IntKind.i64 1) w52) (∀ (w54 : World) (R55 : List Own), Ctx W w54 (R7 ++ R55) I8 → J (Value.int IntKind.i64 0) w54)))

theorem Berrataref03_CompareRows_run (aP : Option Addr) (aN aC : Nat) (bP : Option Addr) (bN bC : Nat) {W w : World} {R : List Own} {Φ : PW} [Stable Φ] {J : Value → World → Prop} (c : Ctx W w R Φ) (h : Berrataref03_CompareRows aP aN aC bP bN bC W R Φ J) : Calls Tryd.prog F.errataref03_CompareRows #[.slice aP aN aC, .slice bP bN bC] w fun e w' => ∃ v, e = .returned v ∧ J v w' :=
  vcFS_sound (H := { keep := some [0, 1, 4, 5, 6, 16, 29, 35, 40], stages := [(4, [.held [(0, true), (1, true), (4, true), (5, true), (2, true), (6, true), (3, true), (7, true)], .stage [] (some 8), .stage [9] none])], loops := [(2, [(5, .one (.int .i64))], [])] }) (by rw [show vcFS Tryd.prog W { keep := some [0, 1, 4, 5, 6, 16, 29, 35, 40], stages := [(4, [.held [(0, true), (1, true), (4, true), (5, true), (2, true), (6, true), (3, true), (7, true)], .stage [] (some 8), .stage [9] none])], loops := [(2, [(5, .one (.int .i64))], [])] } F.errataref03_CompareRows #[.slice aP aN aC, .slice bP bN bC] R Φ J = Berrataref03_CompareRows aP aN aC bP bN bC W R Φ J by kernel_rfl]; exact h) c

/-- errataref03.Compare -/
-- known blocks: 2 a, 3 b
def Berrataref03_Compare (a0 : Int) (a1 : Int) (a2 : ByteArray) (b0 : Int) (b1 : Int) (b2 : ByteArray) (W : World) (R : List Own) (Φ : PW) (J : Value → World → Prop) : Prop :=
  ∀ (b b : Nat), Br (decide (a0 < b0)) (∀ (w0 : World) (R1 : List Own), Ctx W w0 (R ++ R1) Φ → J (Value.int IntKind.i64 (-1)) w0) (Br (decide (b0 < a0)) (∀ (w2 : World) (R3 : List Own), Ctx W
  w2 (R ++ R3) Φ → J (Value.int IntKind.i64 1) w2) (Br (decide (a1 < b1)) (∀ (w4 : World) (R5 : List Own), Ctx W w4 (R ++ R5) Φ → J (Value.int IntKind.i64 (-1)) w4) (Br (decide (b1 < a1)) (∀
  (w6 : World) (R7 : List Own), Ctx W w6 (R ++ R7) Φ → J (Value.int IntKind.i64 1) w6) (Br (Op.bytesLess (ByteArray.toList.loop a2 0 []) (ByteArray.toList.loop b2 0 [])) (∀ (w8 : World) (R9 :
  List Own), Ctx W w8 (R ++ R9) Φ → J (Value.int IntKind.i64 (-1)) w8) (∃ (c10 : Bool), (∀ (w11 : World), Sem.run Tryd.prog (binOp BinOp.gtr 9 (Value.string a2) (Value.string b2)) w11 =
  Result.ok (Value.bool c10) w11) ∧ Br c10 (∀ (w12 : World) (R13 : List Own), Ctx W w12 (R ++ R13) Φ → J (Value.int IntKind.i64 1) w12) (∀ (w14 : World) (R15 : List Own), Ctx W w14 (R ++ R15)
  Φ → J (Value.int IntKind.i64 0) w14))))))

theorem Berrataref03_Compare_run (a0 : Int) (a1 : Int) (a2 : ByteArray) (b0 : Int) (b1 : Int) (b2 : ByteArray) {W w : World} {R : List Own} {Φ : PW} [Stable Φ] {J : Value → World → Prop} (c : Ctx W w R Φ) (h : Berrataref03_Compare a0 a1 a2 b0 b1 b2 W R Φ J) : Calls Tryd.prog F.errataref03_Compare #[.agg #[.int .i64 a0, .int .i64 a1, .string a2], .agg #[.int .i64 b0, .int .i64 b1, .string b2]] w fun e w' => ∃ v, e = .returned v ∧ J v w' :=
  vcFS_sound (H := { keep := some [2, 3, 4, 9, 14, 19, 24, 29, 34], track := [2, 3] }) (by rw [show vcFS Tryd.prog W { keep := some [2, 3, 4, 9, 14, 19, 24, 29, 34], track := [2, 3] } F.errataref03_Compare #[.agg #[.int .i64 a0, .int .i64 a1, .string a2], .agg #[.int .i64 b0, .int .i64 b1, .string b2]] R Φ J = Berrataref03_Compare a0 a1 a2 b0 b1 b2 W R Φ J by kernel_rfl]; exact h) c

end Go.Proofs.YtbkpfhhhbhaecaaDoor
end

