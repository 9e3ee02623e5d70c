/-
  For every input erratalaw37.PlaceMoves returns true, does not panic, comes to an end, and leaves what came in as it was; the variables that its row lists are as the program's text lays them.
  Conditions: none beyond the given statement's own (PlaceMovesCardSaid).
-/
import Derived.Test.YtbkpfhhhbhaecaaDoorMV6
import Derived.Lib.ConvBytes
import Derived.Lib.AtoiErrMem
import Derived.Test.YtbkpfhhhbhaecaaDoorCards
import Derived.MakeChecks
import Derived.Stop.LaidErr
import Derived.Lib.LaidTab
import Derived.Test.YtbkpfhhhbhaecaaDoorTie
import Derived.SevenTiedAt
import Derived.LaidMore
import Derived.ChangeMaps5
import Derived.Test.YtbkpfhhhbhaecaaDoorRows

/-
  The bucket of a row, walked.
-/
section
set_option linter.unusedVariables false
set_option linter.unusedSimpArgs false
namespace Go.Vc
/-- bytes that nobody writes -/
def BytesAt (b : Nat) (l : List UInt8) : PW := fun M w => ∀ j, (hj : j < l.length) → b ∉ M ∧ w.cell? ⟨b, j, none⟩ = some (.int .u8 (l[j].toNat : Int))
instance instStableBytesAt (b : Nat) (l : List UInt8) : Stable (BytesAt b l) := ⟨fun {M M' w w'} hs h j hj => by
  obtain ⟨h1, h2⟩ := h j hj
  have hlt : b < w.heap.size := by
    rcases Nat.lt_or_ge b w.heap.size with h' | h'
    · exact h'
    · simp [World.cell?, Array.getElem?_eq_none h'] at h2
  refine ⟨fun hm => ?_, hs.chg.cell h2 h1⟩
  rcases hs.sub b hm with h | h
  · exact h1 h
  · omega⟩
theorem chg_bytes {w : World} {e : TypeId} {s : ByteArray} : Chg [] w (Lib.bytesWorld w e s) :=
  have h := Lib.bytesWorld_below w e s
  ⟨h.os, h.tape, h.output, h.size, fun k hk _ => h.block k hk⟩
theorem Ctx.bytes {W w : World} {S : List Own} {Φ : PW} [Stable Φ] (c : Ctx W w S Φ) (e : TypeId) (s : ByteArray) : Ctx W (Lib.bytesWorld w e s) S (fun M w' => Φ M w' ∧ BytesAt w.heap.size s.data.toList M w') := by
  refine (c.call chg_bytes).add fun j hj => ⟨fun hm => absurd (c.lt hm) (Nat.lt_irrefl _), ?_⟩
  have hj2 : j < s.size := by
    rw [Array.length_toList] at hj
    exact hj
  rw [Lib.bytesWorld_cell w e s j hj2, show s.data.toList.getD j 0 = s.data.toList[j] by rw [List.getD, List.getElem?_eq_getElem hj]; rfl]
end Go.Vc
namespace Go.Proofs.YtbkpfhhhbhaecaaDoor
open Go.Vc


/-! ### in plain Lean -/
def sumB : List UInt8 → Nat
  | [] => 0
  | c :: l => c.toNat + sumB l
theorem sumB_app : ∀ (a b : List UInt8), sumB (a ++ b) = sumB a + sumB b
  | [], b => by simp [sumB]
  | c :: a, b => by simp only [List.cons_append, sumB, sumB_app a b]; omega
theorem sumB_le : ∀ (l : List UInt8), sumB l ≤ l.length * 255
  | [] => Nat.le_refl _
  | c :: l => by
    have h1 := sumB_le l
    have h2 : c.toNat < 256 := c.toNat_lt
    simp only [sumB, List.length_cons, Nat.add_mul]; omega
theorem sumB_step {l : List UInt8} {i : Nat} (h : i < l.length) : sumB (l.take (i + 1)) = sumB (l.take i) + l[i].toNat := by
  rw [List.take_succ_eq_append_getElem h, sumB_app]
  simp [sumB]
def bucketP (r : List ValD) : Int := ((sumB (rowL r) % 16 : Nat) : Int)
theorem wrap_u8 (c : UInt8) : IntKind.i64.wrap (c.toNat : Int) = (c.toNat : Int) := w64_id (by unfold I64; have := c.toNat_lt; omega)
theorem rowB_size {r : List ValD} (hi : ∀ v ∈ r, (I64 v.kind ∧ I64 v.num) ∧ v.text.size ≤ maxLen) (h1 : r.length ≤ 10000) (h2 : ∀ v ∈ r, v.text.size ≤ 10000) : (rowB r).size ≤ 200000000 := by
  have hv : ∀ v ∈ r, (I64 v.kind ∧ I64 v.num) ∧ v.text.size ≤ 10000 := fun v h => ⟨(hi v h).1, h2 v h⟩
  have hL := rowL_len hv (by decide) (by omega)
  have : r.length * (10000 + 64) ≤ 10000 * 10064 := Nat.mul_le_mul h1 (Nat.le_refl _)
  unfold rowB
  rw [size_list]; omega

section
variable {Φ : PW} {p : Option Addr} {cap : Nat} {r : List ValD} {l : List DeltaD}

theorem Bucket_in [Stable Φ] [hT : Has Φ TabI] [hΦ : Has Φ (fun M w => Sl M w p r)] (hr : r.length ≤ 10000) (ht : ∀ v ∈ r, v.text.size ≤ 10000) : GivesIn Φ Tryd.prog F.place_Bucket #[.slice p r.length cap] (.int .i64 (bucketP r)) := by
  refine .know (fun M w h => sl_i64 (hΦ.go M w h)) fun hi => ?_
  have hsz := rowB_size hi hr ht
  refine gives_in (Bplace_Bucket_run p r.length cap) fun W R => ?_
  refine fun w G cx => (RowBytes_in p cap r hT.go hΦ.go (by omega) ht).toS cx fun w G cx => ?_
  obtain ⟨b, hb⟩ : ∃ b, w.heap.size = b := ⟨_, rfl⟩
  have cx1 := cx.bytes 5 (rowB r)
  rw [hb] at cx1
  have hL : (rowB r).data.toList = rowL r := rfl
  rw [hL] at cx1
  refine ⟨some ⟨b, 0, none⟩, (rowB r).size, _, _, by rw [← hb]; exact Lib.run_convert_string_bytes w 9 109 5 (rowB r) Tryd.underlying9 (by kernel_rfl) (by kernel_rfl), R, _, inferInstance, cx1, ?_⟩
  clear cx cx1 hb
  have hn : (rowB r).size = (rowL r).length := size_list _
  rw [hn] at hsz ⊢
  have hst : Stable (fun M w => Φ M w ∧ BytesAt b (rowL r) M w) := inferInstance
  refine exI_mk (fun n iI R' Φ' k => ∃ i : Nat, iI = i ∧ i ≤ (rowL r).length ∧ n = (sumB ((rowL r).take i) : Int) ∧ R' = R ∧ Φ' = (fun M w => Φ M w ∧ BytesAt b (rowL r) M w) ∧ k = (rowL r).length - i) ⟨⟨R, _, _, hst, fun w F c => c, 0, rfl, Nat.zero_le _, rfl, rfl, rfl, rfl⟩, ?_⟩
  rintro n iI R1 Φ1 k _ ⟨i, rfl, hi2, rfl, rfl, rfl, rfl⟩
  refine Br.intro (fun hlt => ?_) (fun hge => ?_)
  · have hlt : i < (rowL r).length := by have := of_decide_eq_true hlt; omega
    have h1 := sumB_le ((rowL r).take i)
    rw [List.length_take] at h1
    have h2 := (rowL r)[i].toNat_lt
    refine ⟨by omega, ptrK_intro b 0 rfl fun w G cx => ⟨((rowL r)[i].toNat : Int), ?_, ?_, by unfold I64; omega, R1, _, (rowL r).length - (i + 1), hst, fun w G cx => cx, ⟨i + 1, rfl, hlt, ?_, rfl, rfl, rfl⟩, by omega⟩⟩
    · rw [Nat.zero_add, Int.toNat_natCast]
      exact (cx.phi.2 i hlt).2
    · rw [wrap_u8]; unfold I64; omega
    · rw [wrap_u8, sumB_step hlt]; omega
  · have hge : i = (rowL r).length := by have := of_decide_eq_false hge; omega
    subst hge
    refine ⟨by omega, fun w G cx => ⟨?_, cx.left.fst⟩⟩
    rw [List.take_length]
    rfl
end
end Go.Proofs.YtbkpfhhhbhaecaaDoor
end

/-
  Even and SameInts, walked; the law's small(), walked.
-/
section
set_option linter.unusedVariables false
set_option linter.unusedSimpArgs false
namespace Go.Proofs.YtbkpfhhhbhaecaaDoor
open Go.Vc


section
variable {Φ : PW} {p q : Option Addr} {cap cap2 : Nat} {l a b : List Int} {W w : World} {R G : List Own}

theorem Same37_in [Stable Φ] [hΦ : Has Φ (fun M w => Sl M w p a)] [hΨ : Has Φ (fun M w => Sl M w q b)] (ha : a.length ≤ 1000000) : GivesIn Φ Tryd.prog F.errataref37_SameInts #[.slice p a.length cap, .slice q b.length cap2] (.bool (decide (a = b))) := by
  refine .there (fun M w h => (hΦ.go M w h).there) fun hta => .there (fun M w h => (hΨ.go M w h).there) fun htb => ?_
  refine gives_in (Berrataref37_SameInts_run p a.length cap q b.length cap2) fun W R => Br.intro (fun hn => fun w G cx => ⟨?_, cx.left⟩) (fun hn => ?_)
  · have hn := of_decide_eq_true hn
    rw [decide_eq_false fun e => hn (by rw [e])]
  have hn : b.length = a.length := by have := Decidable.not_not.1 (of_decide_eq_false hn); omega
  refine exI_mk (fun n R' Φ' k => ∃ i : Nat, n = i ∧ i ≤ a.length ∧ R' = R ∧ Φ' = Φ ∧ k = a.length - i ∧ a.take i = b.take i) ⟨⟨R, Φ, _, inferInstance, fun w F c => c, 0, rfl, Nat.zero_le _, rfl, rfl, rfl, rfl⟩, ?_⟩
  rintro n R1 Φ1 k _ ⟨i, rfl, hi, rfl, rfl, rfl, hs⟩
  refine Br.intro (fun hlt => ?_) (fun hge => fun w G cx => ⟨?_, cx.left⟩)
  · have hlt : i < a.length := by have := of_decide_eq_true hlt; omega
    obtain ⟨g1, o1, rfl⟩ := hta (by omega)
    obtain ⟨g2, o2, rfl⟩ := htb (by omega)
    have hlt2 : i < b.length := by omega
    refine fun w G cx => ⟨by omega, ptrK_intro g1 o1 rfl ⟨a[i], by rw [Int.toNat_natCast]; exact sl_int (hΦ.go _ _ cx.phi) hlt, by omega, ptrK_intro g2 o2 rfl ⟨b[i], by rw [Int.toNat_natCast]; exact sl_int (hΨ.go _ _ cx.phi) hlt2, Br.intro (fun h => fun w G cx => ⟨?_, cx.left⟩) (fun h => ⟨by unfold I64; omega, R1, Φ1, a.length - (i + 1), inferInstance, fun w G cx => cx, ⟨i + 1, rfl, hlt, rfl, rfl, rfl, ?_⟩, by omega⟩)⟩⟩⟩
    · have h := of_decide_eq_true h
      rw [decide_eq_false fun e => h (by subst e; rfl)]
    · have h : a[i] = b[i] := Decidable.not_not.1 (of_decide_eq_false h)
      rw [List.take_succ_eq_append_getElem hlt, List.take_succ_eq_append_getElem hlt2, hs, h]
  · have hge : i = a.length := by have := of_decide_eq_false hge; omega
    subst hge
    rw [List.take_length, ← hn, List.take_length] at hs
    rw [decide_eq_true hs]

theorem evenL_i64 {n : Int} (h1 : 1 ≤ n) (h2 : n ≤ 8) (m : Nat) (hm : m ≤ 16) : ∀ x ∈ (List.range m).map (evenAt n), I64 x := fun x hx => by
  obtain ⟨i, hi, rfl⟩ := List.mem_map.1 hx
  have hi := List.mem_range.1 hi
  have h : (i : Int) * n = ((i * n.toNat : Nat) : Int) := by rw [Int.natCast_mul, Int.toNat_of_nonneg (by omega)]
  have h3 : i * n.toNat ≤ 16 * 8 := Nat.mul_le_mul (by omega) (by omega)
  unfold evenAt I64
  rw [h, show ((i * n.toNat : Nat) : Int).tdiv 16 = ((i * n.toNat / 16 : Nat) : Int) from rfl]
  omega

theorem Even_sl [Stable Φ] (n : Int) : GivesSl Φ Tryd.prog F.place_Even #[.int .i64 n] (evenP n) id := by
  refine gives_sl (Bplace_Even_run n) fun W R => ?_
  unfold evenP
  refine fun w G cx => Br.intro (fun h => fun w G cx => ?_) (fun h => ?_)
  · have h : n < 1 ∨ 8 < n := by simpa using h
    rw [if_pos h]
    have cx : Ctx W w (bufZ none 0 [] :: R) Φ := (cx.nobuf 3 1).left
    obtain ⟨cx3, hs, _⟩ := Ctx.freeze (α := Int) (l := []) cx (ints_elems _ (by simp))
    exact ⟨none, 0, rfl, Nat.le_refl _, by decide, cx3.add hs⟩
  have h : ¬ (n < 1 ∨ 8 < n) := by simpa using h
  rw [if_neg h]
  clear cx
  have hmul : ∀ i : Nat, i < 16 → I64 ((i : Int) * n) := fun i hi => by
    have e : (i : Int) * n = ((i * n.toNat : Nat) : Int) := by rw [Int.natCast_mul, Int.toNat_of_nonneg (by omega)]
    have h3 : i * n.toNat ≤ 16 * 8 := Nat.mul_le_mul (by omega) (by omega)
    rw [e]; unfold I64; omega
  refine exI_mk (fun op on oc iI R' Φ' m => ∃ i : Nat, iI = i ∧ i ≤ 16 ∧ on = ((List.range i).map (evenAt n)).length ∧ R' = bufZ op oc ((List.range i).map (evenAt n)) :: R ∧ Φ' = Φ ∧ m = 16 - i) ⟨⟨bufZ none 0 [] :: R, Φ, _, inferInstance, fun w G cx => cx.nobuf 3 1, 0, rfl, by decide, rfl, rfl, rfl, rfl⟩, ?_⟩
  rintro op on oc iI R1 Φ1 m _ ⟨i, rfl, hi, rfl, rfl, rfl, rfl⟩
  have hil : ((List.range i).map (evenAt n)).length = i := by rw [List.length_map, List.length_range]
  refine Br.intro (fun hlt => ?_) (fun hge => fun w G cx => ?_)
  · have hlt : i < 16 := by have := of_decide_eq_true hlt; omega
    refine ⟨hmul i hlt, by omega, evenL_i64 (by omega) (by omega) (i + 1) hlt _ (List.mem_map.2 ⟨i, List.mem_range.2 (by omega), rfl⟩), fun kb w G cx => ?_⟩
    have e : (List.range (i + 1)).map (evenAt n) = (List.range i).map (evenAt n) ++ [((i : Int) * n).tdiv 16] := by rw [List.range_succ, List.map_append, List.map_singleton]; rfl
    obtain ⟨p', c', w', hrun, cx'⟩ := pushZ (by omega) cx
    rw [← e] at hrun cx'
    exact ⟨p', _, c', w', hrun, _, Φ1, inferInstance, cx', by unfold I64; omega, _, Φ1, 16 - (i + 1), inferInstance, fun w G cx => cx, ⟨i + 1, rfl, hlt, rfl, rfl, rfl, rfl⟩, by omega⟩
  · have hge : i = 16 := by have := of_decide_eq_false hge; omega
    subst hge
    have cx := cx.left
    obtain ⟨_, k1, k2⟩ := cx.bufLen 0 rfl
    obtain ⟨cx3, hs, _⟩ := Ctx.freeze (α := Int) cx (ints_elems _ (evenL_i64 (by omega) (by omega) 16 (by decide)))
    rw [hil] at k1
    exact ⟨op, oc, rfl, k1, k2, cx3.add hs⟩
end
end Go.Proofs.YtbkpfhhhbhaecaaDoor
end

/-
  small(), walked.
-/
section
set_option linter.unusedVariables false
set_option linter.unusedSimpArgs false
namespace Go.Proofs.YtbkpfhhhbhaecaaDoor
open Go.Vc


abbrev e3 : List Int := [0, 0, 0, 0, 0, 0, 1, 1, 1, 1, 1, 2, 2, 2, 2, 2]
abbrev e32 : List Int := [0, 0, 0, 0, 0, 0, 1, 1, 1, 1, 1, 0, 0, 1, 1, 1]
abbrev vz : List ValD := [⟨0, 0, ByteArray.mk #[]⟩]
theorem e3_is : evenP 3 = e3 := by decide
theorem e32_is (O : List Nat) : spreadG e3 2 O = e32 := by
  have h : evenRoom 2 O = evenRoom 2 [] := by funext w; simp [evenRoom]
  unfold spreadG
  rw [h]
  decide
theorem bkt_nil : bucketP [] = 11 := by kernel_rfl
theorem bkt_vz : bucketP vz = 8 := by kernel_rfl
theorem vz_rep {M : List Nat} {w : World} : Gv.rep M w [.int .i64 0, .int .i64 0, .string (ByteArray.mk #[])] (⟨0, 0, ByteArray.mk #[]⟩ : ValD) :=
  ⟨[.int .i64 0], [.int .i64 0, .string (ByteArray.mk #[])], rfl, ⟨rfl, by show I64 0; unfold I64; omega⟩, [.int .i64 0], [.string (ByteArray.mk #[])], rfl, ⟨rfl, by show I64 0; unfold I64; omega⟩, rfl, by decide⟩
theorem e3_i64 : ∀ x ∈ e3, I64 x := by unfold I64; decide
theorem e32_i64 : ∀ x ∈ e32, I64 x := by unfold I64; decide

set_option maxHeartbeats 1000000 in
theorem small37_in {Φ : PW} [Stable Φ] [hT : Has Φ TabI] : GivesIn Φ Tryd.prog F.erratalaw37_small #[] (.bool true) := by
  refine gives_in (Berratalaw37_small_run) fun W R => ?_
  intro w G cx
  have cx0 : Ctx W w (bufZ none 0 [] :: (R ++ G)) Φ := cx.nobuf 3 1
  obtain ⟨cx1, hs, _⟩ := Ctx.freeze (α := ValD) (l := []) (cx.nobuf 99 3) (by exact Elems.nil)
  have cx2 : Ctx W w (R ++ G) (fun M w => Φ M w ∧ Sl M w none ([] : List ValD)) := cx1.add hs
  clear cx cx0 cx1 hs
  have b0 := Bucket_in (Φ := fun M w => Φ M w ∧ Sl M w none ([] : List ValD)) (p := none) (cap := 0) (r := []) (by decide) (by simp)
  rw [bkt_nil] at b0
  refine b0.toI cx2 (Br.intro (fun _ => ?_) (fun h => absurd rfl (of_decide_eq_false h)))
  clear cx2 b0
  intro k7 w G cx
  obtain ⟨cx1, hs⟩ := cx.freezeBlk (α := ValD) (l := vz) (Elems.one vz_rep)
  have cx2 : Ctx W w (R ++ G) (fun M w => Φ M w ∧ Sl M w (some ⟨k7, 0, none⟩) vz) := (cx1.add hs).weak fun M w h => ⟨h.1.1, h.2⟩
  clear cx cx1 hs
  have b0 := Bucket_in (Φ := fun M w => Φ M w ∧ Sl M w (some ⟨k7, 0, none⟩) vz) (p := some ⟨k7, 0, none⟩) (cap := 1) (r := vz) (by decide) (by intro v hv; rw [List.mem_singleton.1 hv]; decide)
  rw [bkt_vz] at b0
  refine b0.use cx2 fun w c => ⟨8, rfl, R, Φ, inferInstance, Ctx.has c, ?_⟩
  intro w G cx
  clear b0
  have hE := Even_sl (Φ := Φ) 3
  rw [e3_is] at hE
  refine hE.to cx fun p1 c1 f1 f2 st1 => ?_
  clear cx
  intro k24 w G cx
  obtain ⟨cx1, hs⟩ := cx.freezeBlk (α := Int) (l := e3) (ints_elems e3 e3_i64)
  have hS := Same37_in (Φ := fun M w => (Φ M w ∧ Sl M w p1 e3) ∧ Sl M w (some ⟨k24, 0, none⟩) e3) (p := p1) (cap := c1) (a := e3) (q := some ⟨k24, 0, none⟩) (cap2 := 16) (b := e3) (by decide)
  rw [decide_eq_true rfl] at hS
  refine (hS.toBW (Ψ := Φ)) (cx1.add hs) fun w2 G2 cx2 => ?_
  clear cx1 hs cx hS
  refine hE.to cx2 fun p2 c2 f3 f4 st2 => fun w G cx => ?_
  refine Spread_to (l := e3) (n := 2) cx (fun h => absurd ⟨by decide, by decide, by decide⟩ h) fun O p3 c3 _ _ _ hO s1 s2 st3 => ?_
  rw [show (2 : Int).toNat = 2 from rfl, e32_is] at s1 st3 ⊢
  refine Br.intro (fun _ => Br.intro (fun _ => Br.intro (fun _ => ?_) (fun h => absurd rfl (of_decide_eq_false h))) (fun h => by cases h)) (fun h => absurd rfl (of_decide_eq_false h))
  intro k51 w G cx
  obtain ⟨cx1, hs⟩ := cx.freezeBlk (α := Int) (l := e32) (ints_elems e32 e32_i64)
  have hS := Same37_in (Φ := fun M w => ((Φ M w ∧ Sl M w p2 e3) ∧ Sl M w p3 e32) ∧ Sl M w (some ⟨k51, 0, none⟩) e32) (p := p3) (cap := c3) (a := e32) (q := some ⟨k51, 0, none⟩) (cap2 := 16) (b := e32) (by decide)
  rw [decide_eq_true rfl] at hS
  exact (hS.toBW (Ψ := Φ)) (cx1.add hs) fun w G cx => ⟨rfl, cx.left⟩
end Go.Proofs.YtbkpfhhhbhaecaaDoor
end

/-
  Move, walked; what Move and Even give, in plain Lean.
-/
section
set_option linter.unusedVariables false
set_option linter.unusedSimpArgs false
namespace Go.Proofs.YtbkpfhhhbhaecaaDoor
open Go.Vc


/-! ### plain -/
theorem idxP_one {f : Nat → Bool} {k : Nat} {c : Bool} (hf : ∀ i, f i = (decide (i = k) && c)) : ∀ n, idxP f n = if c = true ∧ k < n then [(k : Int)] else []
  | 0 => by rw [if_neg (by omega)]; rfl
  | n + 1 => by
    rw [idxP_succ, idxP_one hf n, hf]
    cases c with
    | false => simp
    | true =>
      rcases Nat.lt_trichotomy n k with h | h | h
      · rw [if_neg (by omega), if_neg (by simp; omega), if_neg (by omega)]; rfl
      · subst h
        rw [if_neg (by omega), if_pos (by simp), if_pos (by exact ⟨rfl, by omega⟩)]; rfl
      · rw [if_pos ⟨rfl, h⟩, if_neg (by simp; omega), if_pos ⟨rfl, by omega⟩]; rfl

theorem moved_set {l : List Int} {k : Nat} {x : Int} (hl : l.length = 16) (hk : k < 16) : movedP l (l.set k x) = if l[k]? = some x then [] else [(k : Int)] := by
  unfold movedP
  rw [if_pos ⟨hl, by rw [List.length_set, hl]⟩]
  rw [idxP_one (k := k) (c := decide (l[k]? ≠ some x)) (fun i => by
    rw [List.getElem?_set]
    by_cases h : i = k
    · subst h
      rw [if_pos rfl, if_pos (by omega)]
      simp
    · rw [if_neg (by omega)]
      simp [h]) 16]
  by_cases h : l[k]? = some x
  · rw [if_pos h, if_neg (by simp [h])]
  · rw [if_neg h, if_pos ⟨by simp [h], hk⟩]

theorem even_ok : ∀ N : Nat, N < 9 → 0 < N → rightZ (evenP N) N = true ∧ ∀ a, a < N → ∀ b, b < N → shareP (evenP N) a ≤ shareP (evenP N) b + 1 := by decide +kernel
theorem moved_self {l : List Int} : movedP l l = [] := by
  unfold movedP
  split
  · rw [show (fun i => decide (l[i]? ≠ l[i]?)) = fun _ => false by funext i; simp]
    rfl
  · rfl

section
variable {Φ : PW} {p q : Option Addr} {cap cap2 : Nat} {l a b : List Int} {W w : World} {R G : List Own}

def moveOk (l : List Int) (bk wk n : Int) : Prop := rightZ l n = true ∧ 0 ≤ bk ∧ bk < 16 ∧ 0 ≤ wk ∧ wk < n

theorem set_i64 {l : List Int} {k : Nat} {x : Int} (h : ∀ y ∈ l, I64 y) (hx : I64 x) : ∀ y ∈ l.set k x, I64 y := fun y hy => by
  rcases List.mem_or_eq_of_mem_set hy with h1 | h1
  · exact h y h1
  · rw [h1]; exact hx

set_option maxHeartbeats 1000000 in
theorem Move_to [Stable Φ] {bk wk n : Int} [hΦ : Has Φ (fun M w => Sl M w p l)] (c : Ctx W w (R ++ G) Φ) {K : Option Addr → Nat → Nat → Int → List Own → PW → Prop}
    (h0 : ¬ moveOk l bk wk n → K none 0 0 1 R Φ)
    (h1 : ∀ p' c', moveOk l bk wk n → (l.set bk.toNat wk).length ≤ c' → c' ≤ maxLen → There p' (l.set bk.toNat wk).length → Stable (fun M w => Φ M w ∧ Sl M w p' (l.set bk.toNat wk)) → K p' (l.set bk.toNat wk).length c' 0 R (fun M w => Φ M w ∧ Sl M w p' (l.set bk.toNat wk))) :
    Calls Tryd.prog F.place_Move #[.slice p l.length cap, .int .i64 bk, .int .i64 wk, .int .i64 n] w fun e w' => ∃ p' k c' m, e = .returned (.tuple #[.slice p' k c', .int .i64 m]) ∧ ∃ R' Φ', Stable Φ' ∧ Ctx W w' (R' ++ G) Φ' ∧ K p' k c' m R' Φ' := by
  refine (Bplace_Move_run p l.length cap bk wk n (J := fun v w' => ∃ p' k c' m, v = .tuple #[.slice p' k c', .int .i64 m] ∧ ∃ R' Φ', Stable Φ' ∧ Ctx W w' (R' ++ G) Φ' ∧ K p' k c' m R' Φ') (R := R ++ G) c ?_).mono fun e w' ⟨v, he, p', k, c', m, hv, rest⟩ => ⟨p', k, c', m, by rw [he, hv], rest⟩
  have no : ¬ moveOk l bk wk n → ∀ (w : World) (G2 : List Own), Ctx W w ((R ++ G) ++ G2) Φ → ∃ p' k c' m, (Value.tuple #[.slice none 0 0, .int .i64 1]) = .tuple #[.slice p' k c', .int .i64 m] ∧ ∃ R' Φ', Stable Φ' ∧ Ctx W w (R' ++ G) Φ' ∧ K p' k c' m R' Φ' := fun h w G2 cx => ⟨none, 0, 0, 1, rfl, R, Φ, inferInstance, cx.left, h0 h⟩
  refine fun w G2 cx => (RightZ_in (l := l) (n := n)).toB cx ?_
  clear cx
  refine Br.intro (fun h => no fun m => by rw [m.1] at h; cases h) (fun r1 => Br.intro (fun h => no fun m => by have := of_decide_eq_true h; have := m.2.1; omega) (fun r2 => Br.intro (fun h => no fun m => by have := of_decide_eq_true h; have := m.2.2.1; omega) (fun r3 => Br.intro (fun h => no fun m => by have := of_decide_eq_true h; have := m.2.2.2.1; omega) (fun r4 => Br.intro (fun h => no fun m => by have := of_decide_eq_true h; have := m.2.2.2.2; omega) (fun r5 => ?_)))))
  have r1 : rightZ l n = true := by simpa using r1
  have r2 := of_decide_eq_false r2
  have r3 := of_decide_eq_false r3
  have r4 := of_decide_eq_false r4
  have r5 := of_decide_eq_false r5
  obtain ⟨n1, n2, hl, hbd⟩ := rightZ_iff.1 r1
  have ok : moveOk l bk wk n := ⟨r1, by omega, by omega, by omega, by omega⟩
  intro w G2 cx
  refine (CloneZ_in (Φ := Φ) (p := p) (cap := cap) (fun M w h => hΦ.go M w h) (by omega)).use cx fun p1 cap1 ds w cx => ?_
  have hds := elems_intv cx.phi.2
  subst hds
  have cx5 : Ctx W w (bufZ p1 cap1 l :: ((R ++ G) ++ G2)) Φ := cx.weak fun M w h => h.1
  obtain ⟨g1, rfl⟩ := z_ptr cx5 (by omega)
  refine ⟨some ⟨g1, 0, none⟩, _, cap1, rfl, bufZ (some ⟨g1, 0, none⟩) cap1 l :: (R ++ G), Φ, inferInstance, cx5, ⟨by omega, by omega⟩, ptrK_intro g1 0 rfl fun w G3 cx => ⟨by rw [Nat.zero_add]; exact z_can cx (by omega), fun w' hw' => ⟨bufZ (some ⟨g1, 0, none⟩) cap1 (l.set bk.toNat wk) :: (R ++ G), Φ, inferInstance, z_put cx (by omega) (by rw [Nat.zero_add] at hw'; exact hw'), fun w G4 cx => ?_⟩⟩⟩
  have cx := cx.left
  obtain ⟨_, k1, k2⟩ := cx.bufLen 0 rfl
  obtain ⟨cx3, hs, _⟩ := Ctx.freeze (α := Int) cx (ints_elems _ (set_i64 (fun y hy => by have := hbd y hy; unfold I64; omega) (by unfold I64; omega)))
  exact ⟨_, _, cap1, 0, by rw [List.length_set], R, _, inferInstance, cx3.add hs, h1 _ _ ok k1 k2 (fun _ => ⟨g1, 0, rfl⟩) inferInstance⟩
end
end Go.Proofs.YtbkpfhhhbhaecaaDoor
end

/-
  The law PlaceMoves, walked.
-/
section
set_option linter.unusedVariables false
set_option linter.unusedSimpArgs false
namespace Go.Proofs.YtbkpfhhhbhaecaaDoor
open Go.Vc


theorem ptrK_of {g : Bool} {p : Option Addr} {K : Nat → Nat → Prop} (h : g = true → ∃ b o, p = some ⟨b, o, none⟩) (hk : ∀ b o, (g = true → p = some ⟨b, o, none⟩) → K b o) : ptrK (some g) p K := by
  unfold ptrK
  split
  · exact hk _ _ fun _ => rfl
  · cases g with
    | false => exact ⟨0, 0, fun h => (by cases h), hk 0 0 fun h => (by cases h)⟩
    | true =>
      obtain ⟨b, o, e⟩ := h rfl
      exact ⟨b, o, fun _ => e, hk b o fun _ => e⟩

section
variable {Φ : PW} {p q : Option Addr} {cap cap2 : Nat} {l a b : List Int} {W w : World} {R G : List Own}

set_option maxHeartbeats 4000000 in
theorem PlaceMoves_in [Stable Φ] {bk wk n : Int} (hsm : GivesIn Φ Tryd.prog F.erratalaw37_small #[] (.bool true)) [hA : Has Φ (fun M w => Sl M w p a)] :
    GivesIn Φ Tryd.prog F.erratalaw37_PlaceMoves #[.slice p a.length cap, .int .i64 bk, .int .i64 wk, .int .i64 n] (.bool true) := by
  refine .there (fun M w h => (hA.go M w h).there) fun hta => ?_
  refine gives_in (Berratalaw37_PlaceMoves_run p a.length cap bk wk n) fun W R => ?_
  refine fun w G cx => hsm.toB cx (Br.intro (fun _ => fun w G cx => ⟨rfl, cx.left⟩) fun h40 => ?_)
  clear cx
  refine fun w G cx => Move_to (l := a) cx (fun hno => ?_) fun p1 c1 ok e1 e2 hp1 st1 => ?_
  · clear cx
    refine fun w G cx => (RightZ_in (l := a) (n := n)).toB cx ?_
    clear cx
    have fin : ∀ v : Bool, v = false → Br (v || decide ((1 : Int) ≠ 0) && decide (((0 : Nat) : Int) ≠ 0)) (∀ (w : World) (G : List Own), Ctx W w (R ++ G) Φ → (Value.bool false) = (Value.bool true) ∧ Ctx W w R Φ) (∀ (w : World) (G : List Own), Ctx W w (R ++ G) Φ → (Value.bool true) = (Value.bool true) ∧ Ctx W w R Φ) := fun v hv => by
      subst hv
      exact Br.intro (fun h => by exfalso; revert h; decide) (fun _ => fun w G cx => ⟨rfl, cx.left⟩)
    refine Br.intro (fun r1 => Br.intro (fun r2 => Br.intro (fun r3 => Br.intro (fun r4 => ?_) (fun r4 => fun w G cx => fin _ (by decide))) (fun r3 => fun w G cx => fin _ (by decide))) (fun r2 => fun w G cx => fin _ (by decide))) (fun r1 => fun w G cx => fin _ (by decide))
    have r5 : ¬ wk < n := fun h => hno ⟨r1, of_decide_eq_true r2, of_decide_eq_true r3, of_decide_eq_true r4, h⟩
    rw [decide_eq_false r5]
    refine fun w G cx => ?_
    refine Br.intro (fun h => by exfalso; revert h; decide) (fun _ => Br.intro (fun _ => fun w G cx => ⟨rfl, cx.left⟩) (fun h => by cases h))
  clear cx
  obtain ⟨r1, r2, r3, r4, r5⟩ := ok
  obtain ⟨n1, n2, hl, hbd⟩ := rightZ_iff.1 r1
  obtain ⟨N, rfl⟩ : ∃ N : Nat, n = N := ⟨n.toNat, by omega⟩
  obtain ⟨k, rfl⟩ : ∃ k : Nat, bk = k := ⟨bk.toNat, by omega⟩
  rw [Int.toNat_natCast] at e1 hp1 st1 ⊢
  have hmv := moved_set (l := a) (k := k) (x := wk) hl (by omega)
  have hQl : (a.set k wk).length = 16 := by rw [List.length_set, hl]
  have hQk : (a.set k wk)[k]? = some wk := by rw [List.getElem?_set]; simp; omega
  have hQb : ∀ x ∈ a.set k wk, 0 ≤ x ∧ x < N := fun x hx => by
    rcases List.mem_or_eq_of_mem_set hx with h | h
    · exact hbd x h
    · omega
  obtain ⟨Q, hQ⟩ : ∃ Q, a.set k wk = Q := ⟨_, rfl⟩
  rw [hQ] at hmv hQl hQk hQb e1 hp1 st1 ⊢
  have hcs := count_sum hQb
  refine fun w G cx => (RightZ_in (l := a) (n := (N : Int))).toB cx ?_
  clear cx
  rw [r1, decide_eq_true r2, decide_eq_true r3, decide_eq_true r4, decide_eq_true r5]
  refine Br.intro (fun _ => Br.intro (fun _ => Br.intro (fun _ => Br.intro (fun _ => ?_) (fun h => by cases h)) (fun h => by cases h)) (fun h => by cases h)) (fun h => by cases h)
  refine fun w G cx => ?_
  clear cx
  refine Br.intro (fun h => by exfalso; revert h; simp) (fun _ => Br.intro (fun h => by cases h) (fun _ => ?_))
  obtain ⟨ga, oa, rfl⟩ := hta (by omega)
  obtain ⟨gq, oq, rfl⟩ := hp1 (by omega)
  have hka : k < a.length := by omega
  have hkq : k < Q.length := by omega
  have hQkk : Q[k] = wk := by rw [List.getElem?_eq_getElem hkq] at hQk; exact Option.some.inj hQk
  have hm1 : (movedP a Q).length ≤ 1 := by rw [hmv]; split <;> simp
  have hm2 : (movedP a Q).length = 0 ↔ a[k] = wk := by
    rw [hmv, List.getElem?_eq_getElem hka]
    constructor
    · intro h
      by_cases h2 : some a[k] = some wk
      · exact Option.some.inj h2
      · rw [if_neg h2] at h; simp at h
    · intro h
      rw [if_pos (by rw [h])]; rfl
  have hm3 : ∀ h : 0 < (movedP a Q).length, (movedP a Q)[0] = (k : Int) := by
    rw [hmv]
    split
    · intro h; simp at h
    · intro h; rfl
  obtain ⟨mv, hmve⟩ : ∃ mv, movedP a Q = mv := ⟨_, rfl⟩
  refine fun w G cx => (Moved_sl (a := a) (b := Q)).tot cx fun p2 c2 e3 e4 hp2 st2 => ?_
  clear cx
  rw [hmve] at hm1 hm2 hm3 e3 hp2 st2 ⊢
  have g1 : (!decide (1 < (mv.length : Int)) && decide ((mv.length : Int) = 1)) = decide (mv.length = 1) := by
    rw [decide_eq_false (by omega), Bool.not_false, Bool.true_and]
    exact decide_eq_decide.2 (by omega)
  have g2 : (!(decide (1 < (mv.length : Int)) || decide ((mv.length : Int) = 1) && decide ((k : Int) ≠ k))) = true := by
    rw [decide_eq_false (by omega)]; simp
  refine fun w G cx => ⟨fun h => by rw [g1] at h; have := of_decide_eq_true h; omega, ptrK_of (fun h => hp2 (by rw [g1] at h; have := of_decide_eq_true h; omega)) fun b0 o0 hb0 => ⟨(k : Int), fun h => ?_, fun _ => by omega, ptrK_intro gq oq rfl ⟨wk, fun _ => ?_, fun _ => by omega, ptrK_intro ga oa rfl ⟨a[k], fun _ => ?_, ?_⟩⟩⟩⟩
  · have hh := h
    rw [g1] at hh
    have hh := of_decide_eq_true hh
    have hs := cx.phi.2
    rw [hb0 h] at hs
    have := sl_int hs (i := 0) (by omega)
    rw [hm3 (by omega)] at this
    exact this
  · have := sl_int cx.phi.1.2 hkq
    rw [hQkk] at this
    exact this
  · exact sl_int (hA.go _ _ cx.phi.1.1) hka
  clear cx
  refine Br.intro (fun h => ?_) (fun _ => ?_)
  · exfalso
    rw [decide_eq_false (by omega), show decide ((k : Int) ≠ k) = false by simp, show decide (wk ≠ wk) = false by simp] at h
    simp only [Bool.and_false, Bool.or_false, Bool.false_or, bne_iff_ne, ne_eq] at h
    exact h (decide_eq_decide.2 (by omega))
  refine exI_mk (fun cI iI R' Φ' m => ∃ i : Nat, iI = i ∧ i ≤ N ∧ cI = (sumF (shareP Q) i : Nat) ∧ R' = R ∧ Φ' = (fun M w => Φ M w ∧ Sl M w (some ⟨gq, oq, none⟩) Q) ∧ m = N - i) ⟨⟨R, _, _, st1, fun w G cx => cx.weak fun M w h => h.1, 0, rfl, Nat.zero_le _, rfl, rfl, rfl, rfl⟩, ?_⟩
  rintro cI iI R1 Φ1 m _ ⟨i, rfl, hi, rfl, rfl, rfl, rfl⟩
  refine Br.intro (fun hlt => ?_) (fun hge => ?_)
  · have hlt : i < N := by have := of_decide_eq_true hlt; omega
    have s3 : Q.count (i : Int) ≤ 16 := by rw [← hQl]; exact List.count_le_length
    have s4 : sumF (shareP Q) i ≤ 16 := by
      have h1 : ∀ {f : Nat → Nat} {a b : Nat}, a ≤ b → sumF f a ≤ sumF f b := fun {f a b} h => by
        induction h with
        | refl => exact Nat.le_refl _
        | step _ ih => exact Nat.le_trans ih (by rw [sumF]; omega)
      have := h1 (f := shareP Q) (a := i) (b := N) (by omega)
      omega
    refine fun w G cx => (ShareZ_in (l := Q) (k := (i : Int)) (by omega)).toI cx ⟨by unfold I64; omega, by unfold I64; omega, R1, _, N - (i + 1), st1, fun w G cx => cx, ⟨i + 1, by omega, hlt, by rw [sumF]; unfold shareP; omega, rfl, rfl, rfl⟩, by omega⟩
  have hge : i = N := by have := of_decide_eq_false hge; omega
  subst hge
  obtain ⟨v1, v2⟩ := even_ok i (by omega) (by omega)
  obtain ⟨hEP, hEb⟩ := place_of v1
  refine fun w G cx => (Even_sl (i : Int)).to cx fun p3 c3 e5 e6 st3 => ?_
  clear cx
  refine fun w G cx => Spread_to (l := evenP (i : Int)) cx (fun h => absurd ⟨by omega, by omega, right_more v1⟩ h) fun O p4 c4 _ _ _ hO e7 e8 st4 => ?_
  clear cx
  rw [Int.toNat_natCast] at hO e7 st4 ⊢
  have hst := stays hEP hEb hO (by omega) fun x y hx hy => v2 x hx y hy
  rw [hst] at e7 st4 ⊢
  refine Br.intro (fun _ => Br.intro (fun _ => ?_) (fun h => absurd (by omega) (of_decide_eq_false h))) (fun h => by cases h)
  refine fun w G cx => (RightZ_in (l := evenP (i : Int)) (n := (i : Int))).toB cx ?_
  clear cx
  rw [v1]
  refine Br.intro (fun _ => Br.intro (fun _ => ?_) (fun h => absurd rfl (of_decide_eq_false h))) (fun h => by cases h)
  refine fun w G cx => (Moved_sl (a := evenP (i : Int)) (b := evenP (i : Int))).to cx fun p5 c5 _ _ _ => fun w G cx => ⟨?_, cx.left.weak fun M w h => h.1.1.1.1⟩
  rw [moved_self]
  rfl
end
end Go.Proofs.YtbkpfhhhbhaecaaDoor
end

/-
  From what a row lists as laid to the table of the powers of ten.
-/
section
set_option linter.unusedVariables false
set_option linter.unusedSimpArgs false
namespace Go.Proofs.YtbkpfhhhbhaecaaDoor
open Go.Vc Go.RowKit

theorem tab_drop {P : Program} {w : World} : ∀ (n : Nat) {l : List (String × DataW Unit)}, laidMet P l w → laidMet P (l.drop n) w
  | 0, l, h => by rw [List.drop_zero]; exact h
  | n + 1, [], h => h
  | n + 1, x :: l, h => by rw [List.drop_succ_cons]; exact tab_drop n h.tail
/-- the table, out of a list that has it at the n-th place -/
theorem la_tab {W : World} {l : List (String × DataW Unit)} (n : Nat) (h : laidMetH Tryd.prog l W) (hp : (l.all fun x => x.2.handleName?.isNone) = true) (hd : ∃ r, l.drop n = ("internal/strconv.uint64pow10", Lib.tabData .u64 Lib.pow10Tab) :: r) : TabI [] W := by
  rw [MakeChecks.laidMetH_plain Tryd.prog l W hp] at h
  obtain ⟨r, hr⟩ := hd
  have h2 := tab_drop n h
  rw [hr] at h2
  exact Tab.start (Lib.tabIs_of_head (k := .u64) (zs := Lib.pow10Tab) (g := 1) (t := 189) (e := 182) (n := 20) (by kernel_rfl) (by kernel_rfl) (by kernel_rfl) (by kernel_rfl) (by kernel_rfl) (by kernel_rfl) h2)

end Go.Proofs.YtbkpfhhhbhaecaaDoor
end

section
set_option linter.unusedVariables false
set_option linter.unusedSimpArgs false
namespace Go.Proofs.YtbkpfhhhbhaecaaDoor
open Go.ChangeShapes Go.WideShapes Go.ChangeAt Go.RowKit Go.Vc


theorem df_own : ownKnob Tryd.prog.godebug = none := by kernel_rfl
theorem df_laid : laidOutB Tryd.prog = true := by kernel_rfl

theorem trodAll_n {H : Type} {enc : TypeId × Value → H} {P : Program} {w : World} {base : Nat} {spare : Nat → Bool} {held : Bool} {t0 t1 t2 t3 : TypeId} {args : Array Value} {ds : List (DataW H)} {ps : List MemPlace} (h : DataW.TrodAll enc P w base spare held [t0, t1, t2, t3] args.toList ds ps) :
    ∃ v0 v1 v2 v3 d0 d1 d2 d3 p0 p1 p2 p3, args = #[v0, v1, v2, v3] ∧ ds = [d0, d1, d2, d3] ∧ ps = p0 ++ p1 ++ p2 ++ p3 ∧ DataW.Trod enc P w base spare held t0 v0 d0 p0 ∧ DataW.Trod enc P w base spare held t1 v1 d1 p1 ∧ DataW.Trod enc P w base spare held t2 v2 d2 p2 ∧ DataW.Trod enc P w base spare held t3 v3 d3 p3 := by
  obtain ⟨v0, vs0, d0, ds0, p0, q0, hargs, rfl, rfl, h0, h⟩ := trodAll_cons h
  obtain ⟨v1, vs1, d1, ds1, p1, q1, rfl, rfl, rfl, h1, h⟩ := trodAll_cons h
  obtain ⟨v2, vs2, d2, ds2, p2, q2, rfl, rfl, rfl, h2, h⟩ := trodAll_cons h
  obtain ⟨v3, vs3, d3, ds3, p3, q3, rfl, rfl, rfl, h3, h⟩ := trodAll_cons h
  obtain ⟨rfl, rfl, rfl⟩ := trodAll_nil h
  exact ⟨v0, v1, v2, v3, d0, d1, d2, d3, p0, p1, p2, p3, by cases args; simp_all, rfl, by simp, h0, h1, h2, h3⟩

theorem door_met (os : Os) (args : Array Value) : laidMetH Tryd.prog Rows.placeMovesRow.laid ((World.doorLaid Tryd.prog 400 os).forCall (fun _ _ => 0) ⟨#[], args, []⟩).memory :=
  laidMetH_of_parts3 (fuel := 8) (laidMet_of_run' 8 (by kernel_rfl) (by kernel_rfl)) (by kernel_rfl) (by kernel_rfl)

set_option maxRecDepth 100000 in
theorem law_lifted (os : Os) (started : os.Started) (H : Type) (enc : TypeId × Value → H) :
    ReturnsInHanded {} Tryd.checked os 4 .any (fun w args => (Rows.placeMovesSpec.pre enc Tryd.prog Tryd.f4 Rows.placeMovesRow.domain false w args ∧ laidMetH Tryd.prog Rows.placeMovesRow.laid w) ∧ sizedMet enc Tryd.prog Tryd.f4 (OpenSpec.ofChange Rows.placeMovesSpec) false w args) (Rows.placeMovesSpec.post enc Tryd.prog Tryd.f4 false true false false) := by
  refine lawTrueLaid (C := Tryd.checked) (tb := 4) df_own started (by kernel_rfl) Tryd.func4 df_laid rfl ?_ rfl Tryd.underlying4 (by kernel_rfl)
    (ChangeSpec.witness_shaped (enc := enc) (C := Tryd.checked) (os := os) (X := fun w _ => laidMetH Tryd.prog Rows.placeMovesRow.laid w) false (World.doorLaid Tryd.prog 400 os) #[.slice none 0 0, .int .i64 0, .int .i64 0, .int .i64 0] 8 rfl (World.shaped_of_RefB (by kernel_rfl) (by kernel_rfl)) (by kernel_rfl) (by kernel_rfl) (by kernel_rfl) (door_met os _)) ?_
  · intro ds hd
    match ds, hd with
    | [_, _, _, _], _ => exact ⟨rfl, rfl, rfl⟩
  · intro W base args ds p hval0 hA0 _ hL
    have hval : ∀ (j : Nat) t v, Tryd.f4.params[j]? = some t → args[j]? = some v → Value.okWide Tryd.prog W .any base t v := hval0
    have hA : DataW.TrodAll enc Tryd.prog W 0 (fun _ => true) true Tryd.f4.params.toList args.toList ds p := hA0
    rw [Tryd.params4] at hA hval
    obtain ⟨v0, v1, v2, v3, d0, d1, d2, d3, p0, p1, p2, p3, rfl, rfl, rfl, h0, h1, h2, h3⟩ := trodAll_n hA
    obtain ⟨pp, pc, p, rfl, pa, pb, s0⟩ := open_sl (α := Int) 12 Tryd.underlying22 (hval 0 22 v0 rfl rfl) (by kernel_rfl) h0
    obtain ⟨bucket, rfl, rfl, rfl, bucketw⟩ := open_int Tryd.underlying3 (hval 1 3 v1 rfl rfl) h1
    obtain ⟨worker, rfl, rfl, rfl, workerw⟩ := open_int Tryd.underlying3 (hval 2 3 v2 rfl rfl) h2
    obtain ⟨workers, rfl, rfl, rfl, workersw⟩ := open_int Tryd.underlying3 (hval 3 3 v3 rfl rfl) h3
    have st0 : Stable (fun M w => Sl M w pp p) := inferInstance
    have st1 : Stable (fun M w => TabI M w ∧ Sl M w pp p) := instStableAnd (fun M w => TabI M w) (fun M w => Sl M w pp p)
    have fin : GivesIn (fun M w => TabI M w ∧ Sl M w pp p) Tryd.prog 4 _ (.bool true) := PlaceMoves_in (Φ := (fun M w => TabI M w ∧ Sl M w pp p)) (p := pp) (cap := pc) (a := p) (bk := bucket) (wk := worker) (n := workers) (hA := ⟨fun _ _ h => h.2⟩) (small37_in (hT := ⟨fun _ _ h => h.1⟩))
    exact fin.law ⟨la_tab 2 hL (by kernel_rfl) ⟨_, rfl⟩, s0⟩

theorem row_holds : Rows.PlaceMovesSaid :=
  OpenClaim.holds_of_wide 4 Tryd.f4 rfl rfl rfl rfl rfl rfl rfl ⟨rfl, rfl, rfl, rfl, rfl⟩ rfl rfl rfl rfl rfl (by kernel_rfl) Tryd.func4 (by kernel_rfl)
    (of_decide_eq_true (by kernel_rfl)) (by unfold Func.isWrapper; first | (rw [if_pos (by decide +kernel)]; kernel_rfl) | (rw [if_neg (by decide +kernel)]; exact ⟨rfl, rfl⟩))
    (fun os started H enc _ => law_lifted os started H enc)

theorem moves_holds : Rows.PlaceMovesCardSaid :=
  Claim7.holds_tied_plain_at .later [] [.data, .data, .data] true Rows.placeMovesCard.stood.harness true
    row_holds (fun _ h => by cases h) (by kernel_rfl) (fun _ h => by cases h) placeMoves_row_tie rfl ⟨rfl, rfl⟩ (by kernel_rfl) rfl
    (fun f fn hf hfn => by
      obtain rfl : f = 4 := Option.some.inj ((show Tryd.prog.funcNamed Rows.placeMovesRow.func = some 4 by kernel_rfl).symm.trans hf) |>.symm
      obtain rfl : fn = Tryd.f4 := (Option.some.inj (Tryd.func4.symm.trans hfn)).symm
      exact ⟨by kernel_rfl, fun j t ht => by
        rw [Tryd.params4] at ht
        have hm := Array.mem_of_getElem? ht
        have hall : ((Tryd.f4.params.toList).all fun u => !Tryd.prog.wantsStandIn u) = true := by kernel_rfl
        rw [Tryd.params4] at hall
        exact (show Tryd.prog.wantsStandIn t = false by simpa using List.all_eq_true.1 hall t (by simpa using hm))⟩)
    (by kernel_rfl)

end Go.Proofs.YtbkpfhhhbhaecaaDoor
end

