/-
  For every input erratalaw42.DifferenceParts returns true, does not panic, comes to an end, and leaves what came in as it was; the variables that its row lists are as the program's text lays them.
  Conditions: none beyond the given statement's own (DifferencePartsCardSaid).
-/
import Derived.Test.YtnapfhbibikbiaaDoorPa87
import Derived.Lib.ConvBytes
import Derived.Lib.AtoiErrMem
import Derived.Test.YtnapfhbibikbiaaDoorPa86
import Derived.Laws.Bits128
import Derived.Test.YtnapfhbibikbiaaDoorCards
import Derived.MakeChecks
import Derived.Stop.LaidErr
import Derived.Lib.LaidTab
import Derived.Test.YtnapfhbibikbiaaDoorTie
import Derived.SevenTiedAt
import Derived.LaidMore
import Derived.ChangeMaps5
import Derived.Test.YtnapfhbibikbiaaDoorRows

/-
  The reference's other functions on lists of deltas, walked.
-/
section
set_option linter.unusedVariables false
set_option linter.unusedSimpArgs false
namespace Go.Proofs.YtnapfhbibikbiaaDoor
open Go.Vc


section
variable {Φ : PW} {p q : Option Addr} {cap cap2 : Nat} {a b l : List DeltaD} {t : Int}

end
end Go.Proofs.YtnapfhbibikbiaaDoor
end

/-
  Buckets, Split, Part, walked.
-/
section
set_option linter.unusedVariables false
set_option linter.unusedSimpArgs false
namespace Go.Vc
/-- bytes that nobody writes -/
def BytesAt (b : Nat) (l : List UInt8) : PW := fun M w => ∀ j, (hj : j < l.length) → b ∉ M ∧ w.cell? ⟨b, j, none⟩ = some (.int .u8 (l[j].toNat : Int))
instance instStableBytesAt (b : Nat) (l : List UInt8) : Stable (BytesAt b l) := ⟨fun {M M' w w'} hs h j hj => by
  obtain ⟨h1, h2⟩ := h j hj
  have hlt : b < w.heap.size := by
    rcases Nat.lt_or_ge b w.heap.size with h' | h'
    · exact h'
    · simp [World.cell?, Array.getElem?_eq_none h'] at h2
  refine ⟨fun hm => ?_, hs.chg.cell h2 h1⟩
  rcases hs.sub b hm with h | h
  · exact h1 h
  · omega⟩
theorem chg_bytes {w : World} {e : TypeId} {s : ByteArray} : Chg [] w (Lib.bytesWorld w e s) :=
  have h := Lib.bytesWorld_below w e s
  ⟨h.os, h.tape, h.output, h.size, fun k hk _ => h.block k hk⟩
theorem Ctx.bytes {W w : World} {S : List Own} {Φ : PW} [Stable Φ] (c : Ctx W w S Φ) (e : TypeId) (s : ByteArray) : Ctx W (Lib.bytesWorld w e s) S (fun M w' => Φ M w' ∧ BytesAt w.heap.size s.data.toList M w') := by
  refine (c.call chg_bytes).add fun j hj => ⟨fun hm => absurd (c.lt hm) (Nat.lt_irrefl _), ?_⟩
  have hj2 : j < s.size := by
    rw [Array.length_toList] at hj
    exact hj
  rw [Lib.bytesWorld_cell w e s j hj2, show s.data.toList.getD j 0 = s.data.toList[j] by rw [List.getD, List.getElem?_eq_getElem hj]; rfl]
end Go.Vc
namespace Go.Proofs.YtnapfhbibikbiaaDoor
open Go.Vc


/-! ### in plain Lean -/
def sumB : List UInt8 → Nat
  | [] => 0
  | c :: l => c.toNat + sumB l
theorem sumB_app : ∀ (a b : List UInt8), sumB (a ++ b) = sumB a + sumB b
  | [], b => by simp [sumB]
  | c :: a, b => by simp only [List.cons_append, sumB, sumB_app a b]; omega
theorem sumB_le : ∀ (l : List UInt8), sumB l ≤ l.length * 255
  | [] => Nat.le_refl _
  | c :: l => by
    have h1 := sumB_le l
    have h2 : c.toNat < 256 := c.toNat_lt
    simp only [sumB, List.length_cons, Nat.add_mul]; omega
theorem sumB_step {l : List UInt8} {i : Nat} (h : i < l.length) : sumB (l.take (i + 1)) = sumB (l.take i) + l[i].toNat := by
  rw [List.take_succ_eq_append_getElem h, sumB_app]
  simp [sumB]
def bucketP (r : List ValD) : Int := ((sumB (rowL r) % 16 : Nat) : Int)
theorem bucket_bd (r : List ValD) : 0 ≤ bucketP r ∧ bucketP r < 16 := by unfold bucketP; omega
theorem wrap_u8 (c : UInt8) : IntKind.i64.wrap (c.toNat : Int) = (c.toNat : Int) := w64_id (by unfold I64; have := c.toNat_lt; omega)
section
variable {Φ : PW} {p : Option Addr} {cap : Nat} {r : List ValD} {l : List DeltaD}

theorem Bucket_in [Stable Φ] [hT : Has Φ TabI] [hΦ : Has Φ (fun M w => Sl M w p r)] (hr : r.length ≤ 10000) (ht : ∀ v ∈ r, v.text.size ≤ 10000) : GivesIn Φ Tryd.prog F.place_Bucket #[.slice p r.length cap] (.int .i64 (bucketP r)) := by
  refine .know (fun M w h => sl_i64 (hΦ.go M w h)) fun hi => ?_
  have hsz := rowB_size hi hr ht
  refine gives_in (Bplace_Bucket_run p r.length cap) fun W R => ?_
  refine fun w G cx => (RowBytes_in p cap r hT.go hΦ.go (by omega) ht).toS cx fun w G cx => ?_
  obtain ⟨b, hb⟩ : ∃ b, w.heap.size = b := ⟨_, rfl⟩
  have cx1 := cx.bytes 5 (rowB r)
  rw [hb] at cx1
  have hL : (rowB r).data.toList = rowL r := rfl
  rw [hL] at cx1
  refine ⟨some ⟨b, 0, none⟩, (rowB r).size, _, _, by rw [← hb]; exact Lib.run_convert_string_bytes w 9 71 5 (rowB r) Tryd.underlying9 (by kernel_rfl) (by kernel_rfl), R, _, inferInstance, cx1, ?_⟩
  clear cx cx1 hb
  have hn : (rowB r).size = (rowL r).length := size_list _
  rw [hn] at hsz ⊢
  have hst : Stable (fun M w => Φ M w ∧ BytesAt b (rowL r) M w) := inferInstance
  refine exI_mk (fun n iI R' Φ' k => ∃ i : Nat, iI = i ∧ i ≤ (rowL r).length ∧ n = (sumB ((rowL r).take i) : Int) ∧ R' = R ∧ Φ' = (fun M w => Φ M w ∧ BytesAt b (rowL r) M w) ∧ k = (rowL r).length - i) ⟨⟨R, _, _, hst, fun w F c => c, 0, rfl, Nat.zero_le _, rfl, rfl, rfl, rfl⟩, ?_⟩
  rintro n iI R1 Φ1 k _ ⟨i, rfl, hi2, rfl, rfl, rfl, rfl⟩
  refine Br.intro (fun hlt => ?_) (fun hge => ?_)
  · have hlt : i < (rowL r).length := by have := of_decide_eq_true hlt; omega
    have h1 := sumB_le ((rowL r).take i)
    rw [List.length_take] at h1
    have h2 := (rowL r)[i].toNat_lt
    refine ⟨by omega, ptrK_intro b 0 rfl fun w G cx => ⟨((rowL r)[i].toNat : Int), ?_, ?_, by unfold I64; omega, R1, _, (rowL r).length - (i + 1), hst, fun w G cx => cx, ⟨i + 1, rfl, hlt, ?_, rfl, rfl, rfl⟩, by omega⟩⟩
    · rw [Nat.zero_add, Int.toNat_natCast]
      exact (cx.phi.2 i hlt).2
    · rw [wrap_u8]; unfold I64; omega
    · rw [wrap_u8, sumB_step hlt]; omega
  · have hge : i = (rowL r).length := by have := of_decide_eq_false hge; omega
    subst hge
    refine ⟨by omega, fun w G cx => ⟨?_, cx.left.fst⟩⟩
    rw [List.take_length]
    rfl

end
end Go.Proofs.YtnapfhbibikbiaaDoor
end

/-
  Split and Part, walked.
-/
section
set_option linter.unusedVariables false
set_option linter.unusedSimpArgs false
namespace Go.Proofs.YtnapfhbibikbiaaDoor
open Go.Vc


/-! ### slices that grow, several of them -/
structure PB where
  p : Option Addr
  c : Nat
  ds : List Value
  l : List DeltaD
abbrev PB.own (x : PB) : Own := .buf x.p x.l.length x.c x.ds 39 3
abbrev PB.cell (x : PB) : Value := .slice x.p x.l.length x.c
def PBE (bs : List PB) : PW := fun M w => ∀ x ∈ bs, Elems M w x.ds x.l
instance instStablePBE (bs : List PB) : Stable (PBE bs) := ⟨fun hs h x hx => Stable.step (Φ := fun M w => Elems M w x.ds x.l) hs (h x hx)⟩

section
variable {W w : World} {R G : List Own} {Φ PS : PW}

theorem Ctx.nobufs [Stable Φ] {S : List Own} (c : Ctx W w S Φ) : ∀ n : Nat, Ctx W w ((List.replicate n (⟨none, 0, [], []⟩ : PB)).map PB.own ++ S) Φ
  | 0 => c
  | n + 1 => (Ctx.nobufs c n).nobuf 39 3

theorem Ctx.dropB [Stable Φ] {bs : List PB} {o : Own} (c : Ctx W w (o :: (bs.map PB.own ++ R) ++ G) Φ) : Ctx W w (o :: R ++ G) Φ :=
  c.sub (List.Sublist.cons_cons _ (List.Sublist.append (List.sublist_append_right _ _) (List.Sublist.refl _)))

theorem pushK [Stable PS] {bs : List PB} {o : Own} {x : DeltaD} {q : Option Addr} {qc kb j : Nat} (hj : j < bs.length) (hx : ∀ M w, PS M w → Gv.rep M w (x.cells q qc) x) (ho : bs[j].l.length < 10000000)
    (cx : Ctx W w (.blk kb (x.cells q qc) 39 :: o :: (bs.map PB.own ++ R) ++ G) (fun M w => PS M w ∧ PBE bs M w)) :
    ∃ p c w', Sem.run Tryd.prog (builtin Builtin.append #[22, 22] 22 #[false, false] #[bs[j].cell, .slice (some ⟨kb, 0, none⟩) 1 1]) w = .ok (.value (.slice p (bs[j].l ++ [x]).length c)) w' ∧
      Ctx W w' (o :: ((bs.set j ⟨p, c, bs[j].ds ++ x.cells q qc, bs[j].l ++ [x]⟩).map PB.own ++ R) ++ G) (fun M w => PS M w ∧ PBE (bs.set j ⟨p, c, bs[j].ds ++ x.cells q qc, bs[j].l ++ [x]⟩) M w) := by
  obtain ⟨i, z, e1, e2, e3, e4, e5, e6⟩ := appB_out (show appB Tryd.prog 22 39 3 40 = true by kernel_rfl)
  have hk : ((.blk kb (x.cells q qc) 39 :: o :: (bs.map PB.own ++ R) ++ G : List Own))[j + 2]? = some (.buf bs[j].p bs[j].l.length bs[j].c bs[j].ds 39 3) := by
    show ((bs.map PB.own ++ R) ++ G)[j]? = _
    rw [List.append_assoc, List.getElem?_append_left (by rw [List.length_map]; exact hj), List.getElem?_map, List.getElem?_eq_getElem hj]
    rfl
  have hby : (bs[j].l.length + 1) * i.bytes ≤ 10000000 * 1000 := Nat.mul_le_mul (by omega) (by omega)
  obtain ⟨p', cap', w', h2, c'⟩ := cx.append (j + 2) hk (ty := 22) e1 e2 e3 e4 e5 (a := ⟨kb, 0, none⟩) (m := 1) (c2 := 1) (news := x.cells q qc) (by omega) rfl (fun j u hj => by rw [addr_add, Nat.zero_add]; exact cx.get 0 rfl hj)
    (fun u hu => List.all_eq_true.1 (show ((x.cells q qc).all fun u => oneC u) = true from rfl) u hu) (by omega) (by omega)
  have el : bs[j].l.length + 1 = (bs[j].l ++ [x]).length := by simp
  rw [el] at h2 c'
  have es : ((.blk kb (x.cells q qc) 39 :: o :: (bs.map PB.own ++ R) ++ G : List Own)).set (j + 2) (.buf p' (bs[j].l ++ [x]).length cap' (bs[j].ds ++ x.cells q qc) 39 3) = .blk kb (x.cells q qc) 39 :: (o :: ((bs.set j ⟨p', cap', bs[j].ds ++ x.cells q qc, bs[j].l ++ [x]⟩).map PB.own ++ R) ++ G) := by
    show _ :: _ :: ((bs.map PB.own ++ R) ++ G).set j _ = _
    rw [List.append_assoc, List.set_append_left _ _ (by rw [List.length_map]; exact hj), List.map_set, ← List.append_assoc]
    rfl
  rw [es] at c'
  refine ⟨p', cap', w', run_app h2, c'.drop1.weak fun M w h => ⟨h.1, fun y hy => ?_⟩⟩
  rcases List.mem_or_eq_of_mem_set hy with hy | rfl
  · exact h.2 y hy
  · exact (h.2 bs[j] (List.getElem_mem hj)).snoc (hx M w h.1)
end

/-! ### Split -/
def partP (l : List DeltaD) (k : Int) : List DeltaD := (consP l).filter fun x => decide (bucketP x.row = k)
def splitP (l : List DeltaD) : List (List DeltaD) := (List.range 16).map fun k => partP l ((k : Nat) : Int)

theorem splitP_get (l : List DeltaD) (i : Nat) (h : i < (splitP l).length) : (splitP l)[i] = partP l ((i : Nat) : Int) := by
  simp [splitP]
theorem elems_cells {M : List Nat} {w : World} : ∀ (bs : List PB), (∀ x ∈ bs, x.l.length ≤ x.c ∧ x.c ≤ maxLen ∧ Sl M w x.p x.l) → Elems M w (bs.map PB.cell) (bs.map PB.l)
  | [], _ => Elems.nil
  | x :: bs, h => by
    obtain ⟨h1, h2, h3⟩ := h x (by simp)
    exact Elems.append (l := [x.l]) (cs := [x.cell]) (Elems.one (rep_list.2 ⟨x.p, x.c, rfl, h1, h2, h3⟩)) (elems_cells bs fun y hy => h y (by simp [hy]))

section
variable {Φ : PW} {p : Option Addr} {cap : Nat} {l : List DeltaD}

set_option maxHeartbeats 2000000 in
theorem Split_sl [Stable Φ] [hT : Has Φ TabI] [hΦ : Has Φ (fun M w => Sl M w p l)] (hlen : l.length ≤ 1000000) (hfit : ∀ x ∈ l, Fit x) : GivesSl Φ Tryd.prog F.difference_Split #[.slice p l.length cap] (splitP l) id := by
  have hrow : Rows1 l := fun x hx => Nat.le_trans (hfit x hx).1 (by decide)
  refine gives_sl (Bdifference_Split_run p l.length cap) fun W R => ?_
  intro k0 w G cx
  refine (Consolidate_sl p cap l hΦ.go hlen hrow).use cx fun p1 c1 w h1 h2 cx => ?_
  have hcfit : ∀ x ∈ consP l, x.row.length ≤ 10000 ∧ ∀ v ∈ x.row, v.text.size ≤ 10000 := consP_row (P := fun r => r.length ≤ 10000 ∧ ∀ v ∈ r, v.text.size ≤ 10000) hfit
  have hcl := consP_len l
  have hsp : splitP l = (List.range 16).map fun k => (consP l).filter fun x => decide (bucketP x.row = ((k : Nat) : Int)) := rfl
  obtain ⟨c, hc⟩ : ∃ c, consP l = c := ⟨_, rfl⟩
  rw [hc] at cx h1 hcl hcfit hsp ⊢
  obtain ⟨g, o, cs, hp, cx⟩ := cx.pin cx.phi.2
  obtain ⟨PS, hPS⟩ : ∃ PS : PW, PS = (fun M w => (Φ M w ∧ Sl M w p1 c) ∧ Pin g o cs c M w) := ⟨_, rfl⟩
  have stP : Stable PS := by rw [hPS]; infer_instance
  have iP : ∀ M w, PS M w → Pin g o cs c M w := fun M w h => by rw [hPS] at h; exact h.2
  have i0 : ∀ M w, PS M w → Φ M w := fun M w h => by rw [hPS] at h; exact h.1.1
  rw [← hPS] at cx
  clear hPS hc
  have hcs := Ctx.cells cx iP
  refine ⟨p1, _, c1, rfl, _, PS, stP, cx, ?_⟩
  clear cx
  refine exI_mk (fun iI R' Φ' m => ∃ (i : Nat) (bs : List PB), iI = i ∧ i ≤ c.length ∧ bs.length = 16 ∧ (∀ j, (hj : j < bs.length) → bs[j].l = (c.take i).filter fun x => decide (bucketP x.row = (j : Int))) ∧ R' = .blk k0 (bs.map PB.cell) 63 :: (bs.map PB.own ++ R) ∧ Φ' = (fun M w => PS M w ∧ PBE bs M w) ∧ m = c.length - i)
    ⟨⟨_, fun M w => PS M w ∧ PBE (List.replicate 16 ⟨none, 0, [], []⟩) M w, _, inferInstance, fun w G cx => ?_, 0, List.replicate 16 ⟨none, 0, [], []⟩, rfl, Nat.zero_le _, rfl, fun j hj => ?_, rfl, rfl, rfl⟩, ?_⟩
  · have c2 := Ctx.nobufs cx 16
    have c3 := c2.perm (List.perm_middle (a := .blk k0 ((List.replicate 16 (⟨none, 0, [], []⟩ : PB)).map PB.cell) 63) (l₁ := (List.replicate 16 (⟨none, 0, [], []⟩ : PB)).map PB.own) (l₂ := R ++ G))
    rw [← List.append_assoc] at c3
    refine Ctx.weak c3 fun M w h => ⟨h, fun x hx => ?_⟩
    rw [List.eq_of_mem_replicate hx]
    exact Elems.nil
  · rw [List.getElem_replicate, List.take_zero]
    rfl
  rintro iI R1 Φ1 m _ ⟨i, bs, rfl, hi, hbl, hbs, rfl, rfl, rfl⟩
  have st2 : Stable (fun M w => PS M w ∧ PBE bs M w) := inferInstance
  refine Br.intro (fun hlt => ?_) (fun hge => ?_)
  · have hlt : i < c.length := by have := of_decide_eq_true hlt; omega
    obtain ⟨q, qc, he, f1, f2, f3, f4⟩ := hcs i hlt
    have hf := hcfit c[i] (List.getElem_mem hlt)
    obtain ⟨X, hX⟩ : ∃ X, c[i] = X := ⟨_, rfl⟩
    have slX : ∀ M w, PS M w → Sl M w q X.row := fun M w h => by rw [← hX]; exact pin_row (iP M w h) hlt he
    refine ⟨by omega, ptrK_intro g o (hp (by omega)) fun w G cx => ⟨X.time, q, X.row.length, qc, X.n, by rw [Int.toNat_natCast, ← hX]; exact pin_rowAt (iP _ _ cx.phi.1) hlt he, fun _ w G cx => ?_⟩⟩
    rw [hX] at f1 f3 f4 hf
    refine (Bucket_in (Φ := fun M w => PS M w ∧ PBE bs M w) (p := q) (cap := qc) (r := X.row) (hT := ⟨fun M w h => hT.go M w (i0 M w h.1)⟩) (hΦ := ⟨fun M w h => slX M w h.1⟩) hf.1 hf.2).toI cx ?_
    clear cx
    obtain ⟨hb1, hb2⟩ := bucket_bd X.row
    obtain ⟨j, hj⟩ : ∃ j : Nat, bucketP X.row = (j : Int) := ⟨(bucketP X.row).toNat, by omega⟩
    have hj16 : j < bs.length := by omega
    have htk : c.take (i + 1) = c.take i ++ [X] := by rw [List.take_succ_eq_append_getElem hlt, hX]
    have hfl : bs[j].l.length ≤ i := by
      rw [hbs j hj16]
      have := List.length_filter_le (fun x : DeltaD => decide (bucketP x.row = (j : Int))) (c.take i)
      rw [List.length_take] at this
      omega
    rw [hj]
    have e0 : 0 + (j : Int).toNat = j := by omega
    refine ⟨.blk k0 (bs.map PB.cell) 63 :: R, PS, stP, fun w G cx => (Ctx.dropB cx).fst, by omega, bs[j].p, bs[j].l.length, bs[j].c, fun w G cx => ⟨_, _, _, cx.get 0 rfl (by rw [e0, List.getElem?_map, List.getElem?_eq_getElem hj16]; rfl), rfl⟩, fun kb => ⟨fun w G cx => (Ctx.dropB cx.drop1).fst, fun w G cx => ?_⟩⟩
    obtain ⟨p', c', w', hrun, cx'⟩ := pushK (x := X) hj16 (fun M w h => rep_delta f1 f2 f3 f4 (slX M w h)) (by omega) cx
    clear cx
    obtain ⟨new, hnew⟩ : ∃ new : PB, new = ⟨p', c', bs[j].ds ++ X.cells q qc, bs[j].l ++ [X]⟩ := ⟨_, rfl⟩
    rw [← hnew] at cx'
    have ep : p' = new.p := by rw [hnew]
    have ec : c' = new.c := by rw [hnew]
    have ell : bs[j].l ++ [X] = new.l := by rw [hnew]
    rw [ep, ec, ell] at hrun
    have st3 : Stable (fun M w => PS M w ∧ PBE (bs.set j new) M w) := inferInstance
    refine ⟨new.p, new.l.length, new.c, w', hrun, .blk k0 (bs.map PB.cell) 63 :: ((bs.set j new).map PB.own ++ R), _, st3, cx', fun w G cx => (Ctx.dropB cx).fst, by omega, fun w G cx => ⟨cx.can 0 rfl (by rw [e0, List.length_map]; omega), fun w' hw' => ?_⟩⟩
    rw [e0] at hw'
    have cx2 := cx.put 0 hw' rfl
    have em : (bs.map PB.cell).set j (.slice new.p new.l.length new.c) = (bs.set j new).map PB.cell := by rw [List.map_set]
    have cx3 : Ctx W w' (.blk k0 ((bs.set j new).map PB.cell) 63 :: ((bs.set j new).map PB.own ++ R) ++ G) (fun M w => PS M w ∧ PBE (bs.set j new) M w) := by
      rw [← em]
      exact cx2
    refine ⟨_, _, st3, cx3, by unfold I64; omega, _, _, c.length - (i + 1), st3, fun w G cx => cx, ⟨i + 1, bs.set j new, by omega, hlt, by rw [List.length_set]; exact hbl, fun k hk => ?_, rfl, rfl, rfl⟩, by omega⟩
    rw [List.length_set] at hk
    rw [htk, List.filter_append, List.getElem_set]
    split
    · rename_i hjk
      subst hjk
      rw [← ell, hbs j hj16, List.filter_cons_of_pos (by rw [hj]; exact decide_eq_true rfl)]
      rfl
    · rename_i hjk
      rw [hbs k hk, List.filter_cons_of_neg (by rw [hj, decide_eq_true_eq]; omega)]
      simp
  · have hge : i = c.length := by have := of_decide_eq_false hge; omega
    subst hge
    rw [List.take_length] at hbs
    refine ⟨Nat.le_refl _, fun w G cx => ?_⟩
    have cx := cx.left
    have hnd : ∀ x ∈ bs, x.l.length ≤ x.c ∧ x.c ≤ maxLen ∧ Sl (dom (.blk k0 (bs.map PB.cell) 63 :: R)) w x.p x.l := fun x hx => by
      have cp : Ctx W w (bs.map PB.own ++ (.blk k0 (bs.map PB.cell) 63 :: R)) (fun M w => PS M w ∧ PBE bs M w) := cx.perm List.perm_middle.symm
      have hm : x.own ∈ bs.map PB.own := List.mem_map_of_mem hx
      obtain ⟨n, hn, hxn⟩ := List.getElem_of_mem hm
      have hlb := cp.bufLen n (by rw [List.getElem?_append_left hn, List.getElem?_eq_getElem hn, hxn])
      exact ⟨hlb.2.1, hlb.2.2, Ctx.letGo (α := DeltaD) cp hm (cp.phi.2 x hx)⟩
    have cx1 : Ctx W w (.blk k0 (bs.map PB.cell) 63 :: R) PS := by
      have := Ctx.dropB (G := []) (R := R) (bs := bs) (o := .blk k0 (bs.map PB.cell) 63) (by rw [List.append_nil]; exact cx)
      rw [List.append_nil] at this
      exact this.fst
    obtain ⟨cx2, hs⟩ := cx1.freezeBlk (α := List DeltaD) (l := bs.map PB.l) (elems_cells bs hnd)
    have hsl : bs.map PB.l = splitP l := by
      rw [hsp]
      refine List.ext_getElem (by simp [hbl]) fun k h1 h2 => ?_
      rw [List.getElem_map, List.getElem_map, List.getElem_range]
      exact hbs k (by rwa [List.length_map] at h1)
    rw [hsl] at hs
    have h16 : (splitP l).length = 16 := by rw [hsp, List.length_map, List.length_range]
    rw [h16]
    exact ⟨some ⟨k0, 0, none⟩, 16, rfl, Nat.le_refl _, by decide, (cx2.add hs).weak fun M w h => ⟨i0 M w h.1, h.2⟩⟩

theorem Part_sl [Stable Φ] {k : Int} [hT : Has Φ TabI] [hΦ : Has Φ (fun M w => Sl M w p l)] (hlen : l.length ≤ 1000000) (hfit : ∀ x ∈ l, Fit x) : GivesSl Φ Tryd.prog F.difference_Part #[.slice p l.length cap, .int .i64 k] (partP l k) id := by
  refine gives_sl (Bdifference_Part_run p l.length cap k) fun W R => ?_
  refine exI_mk (fun iI R' Φ' m => ∃ i : Nat, iI = i ∧ i ≤ 16 ∧ R' = R ∧ Φ' = Φ ∧ m = 16 - i ∧ ∀ j : Nat, j < i → (j : Int) ≠ k) ⟨⟨R, Φ, _, inferInstance, fun w G cx => cx, 0, rfl, by omega, rfl, rfl, rfl, fun j hj => by omega⟩, ?_⟩
  rintro iI R1 Φ1 m _ ⟨i, rfl, hi, rfl, rfl, rfl, hne⟩
  refine Br.intro (fun hlt => ?_) (fun hge => fun w G cx => ?_)
  · have hlt : i < 16 := by have := of_decide_eq_true hlt; omega
    refine Br.intro (fun he => fun w G cx => ?_) (fun he => ⟨by unfold I64; omega, R1, Φ1, 16 - (i + 1), inferInstance, fun w G cx => cx, ⟨i + 1, rfl, hlt, rfl, rfl, rfl, fun j hj => ?_⟩, by omega⟩)
    · have he : (i : Int) = k := of_decide_eq_true he
      refine (Split_sl hlen hfit).use cx fun p1 c1 w h1 h2 cx => ?_
      obtain ⟨S, hS⟩ : ∃ S, splitP l = S := ⟨_, rfl⟩
      have hl : S.length = 16 := by rw [← hS]; unfold splitP; rw [List.length_map, List.length_range]
      have hSi : ∀ (h : i < S.length), S[i] = partP l k := fun h => by
        subst hS
        rw [splitP_get, he]
      rw [hS] at cx h1 ⊢
      obtain ⟨g, o, cs, hp, cx⟩ := cx.pin cx.phi.2
      obtain ⟨p2, c2, e1, g1, g2⟩ := pin_ll cx.phi.2 (show i < S.length by omega)
      refine ⟨p1, _, c1, rfl, R1, fun M w => (Φ1 M w ∧ Sl M w p1 S) ∧ Pin g o cs S M w, inferInstance, cx, by omega, ptrK_intro g o (hp (by omega)) fun w G cx => ⟨p2, S[i].length, c2, by rw [Int.toNat_natCast]; exact pin_llAt cx.phi.2 (by omega) e1, fun w G cx => ?_⟩⟩
      have hs := pin_llSl cx.left.phi.2 (show i < S.length by omega) e1
      rw [← hSi (by omega)]
      exact ⟨p2, c2, rfl, g1, g2, (cx.left.add hs).weak fun M w h => ⟨h.1.1.1, h.2⟩⟩
    · have he := of_decide_eq_false he
      rcases Nat.lt_or_ge j i with h | h
      · exact hne j h
      · rw [show j = i by omega]; exact he
  · have hge : i = 16 := by have := of_decide_eq_false hge; omega
    have hnil : partP l k = [] := by
      unfold partP
      rw [List.filter_eq_nil_iff]
      intro x _ h
      obtain ⟨b1, b2⟩ := bucket_bd x.row
      have h := of_decide_eq_true h
      exact hne (bucketP x.row).toNat (by omega) (by omega)
    rw [hnil]
    exact ⟨none, 0, rfl, Nat.le_refl _, by decide, cx.left.weak fun M w h => ⟨h, Sl.nil⟩⟩
end
end Go.Proofs.YtnapfhbibikbiaaDoor
end

/-
  Sub, Diff, walked.
-/
section
set_option linter.unusedVariables false
set_option linter.unusedSimpArgs false
namespace Go.Proofs.YtnapfhbibikbiaaDoor
open Go.Vc


set_option maxHeartbeats 1000000 in
theorem Sub_pin {Φ : PW} [Stable Φ] (p : Option Addr) (cap : Nat) (a : List DeltaD) (q : Option Addr) (cap2 : Nat) (b : List DeltaD) (g o : Nat) (cs : List (List Value)) (hq : 0 < b.length → q = some ⟨g, o, none⟩) (hΦ : ∀ M w, Φ M w → Sl M w p a) (hΨ : ∀ M w, Φ M w → Pin g o cs b M w)
    (ha : a.length ≤ 400000) (hb : b.length ≤ 400000) (hra : ∀ x ∈ a, x.row.length ≤ 1000000) (hrb : ∀ x ∈ b, x.row.length ≤ 1000000) : GivesSl Φ Tryd.prog F.delta_Sub #[.slice p a.length cap, .slice q b.length cap2] (subP a b) id := by
  refine ⟨fun W0 w0 S0 c0 => ?_⟩
  have hcs : ∀ j, (hj : j < b.length) → ∃ p c, cs.getD j [] = b[j].cells p c ∧ b[j].row.length ≤ c ∧ c ≤ maxLen ∧ I64 b[j].time ∧ I64 b[j].n := fun j hj => by
    obtain ⟨p, c, h1, h2, h3, h4, h5, _⟩ := pin_delta (hΨ _ _ c0.phi) hj
    exact ⟨p, c, h1, h2, h3, h4, h5⟩
  refine GivesSl.go (gives_sl (Bdelta_Sub_run p a.length cap q b.length cap2) fun W R => ?_) W0 w0 S0 c0
  clear c0
  refine fun w G cx => (CloneD_in p cap a hΦ (by omega)).use cx fun p1 cap1 ds w cx => ⟨p1, _, cap1, rfl, .buf p1 a.length cap1 ds 39 3 :: R, _, inferInstance, cx, ?_⟩
  refine exI_mk (fun sp sn sc iI R' Φ' k => ∃ (i : Nat) (ds : List Value), iI = i ∧ i ≤ b.length ∧ sn = (a ++ (b.take i).map negD).length ∧ R' = .buf sp sn sc ds 39 3 :: R ∧ Φ' = (fun M w => Φ M w ∧ Elems M w ds (a ++ (b.take i).map negD)) ∧ k = b.length - i)
    ⟨⟨.buf p1 a.length cap1 ds 39 3 :: R, fun M w => Φ M w ∧ Elems M w ds (a ++ (b.take 0).map negD), _, inferInstance, fun w G cx => cx.weak fun M w h => ⟨h.1, by simpa using h.2⟩, 0, ds, rfl, Nat.zero_le _, by simp, rfl, rfl, rfl⟩, ?_⟩
  clear cx
  rintro sp _ sc iI R1 Φ1 k _ ⟨i, ds, rfl, hi, rfl, rfl, rfl, rfl⟩
  have hln : (a ++ (b.take i).map negD).length = a.length + i := by simp; omega
  have hst : Stable (fun M w => Φ M w ∧ Elems M w ds (a ++ (b.take i).map negD)) := inferInstance
  refine Br.intro (fun hlt => ?_) (fun hge => fun w G cx => ?_)
  · have hlt := of_decide_eq_true hlt
    have hlt : i < b.length := by omega
    obtain ⟨r, rc, he, h1, h2, h3, h4⟩ := hcs i hlt
    refine ⟨by omega, ptrK_intro g o (hq (by omega)) fun w G cx => ⟨b[i].time, r, b[i].row.length, rc, b[i].n, by rw [Int.toNat_natCast]; exact pin_rowAt (hΨ _ _ cx.phi.1) hlt he, fun _ k w G cx => ?_⟩⟩
    obtain ⟨p', cap', w', hrun, _, cx'⟩ := Ctx.app1 (P := Tryd.prog) (ts := 22) (ty := 22) (kb := #[false, false]) (size := 3) (bytes := 40) cx (by kernel_rfl) (by omega) rfl rfl (by omega) (by omega)
    have htk : a ++ (b.take (i + 1)).map negD = (a ++ (b.take i).map negD) ++ [negD b[i]] := by rw [List.take_succ_eq_append_getElem hlt, List.map_append, ← List.append_assoc]; rfl
    have hln2 : (a ++ (b.take i).map negD).length + 1 = (a ++ (b.take (i + 1)).map negD).length := by rw [htk, List.length_append (bs := [negD b[i]])]; rfl
    rw [hln2] at cx' hrun
    have hst3 : Stable (fun M w => Φ M w ∧ Elems M w (ds ++ (negD b[i]).cells r rc) (a ++ (b.take (i + 1)).map negD)) := inferInstance
    refine ⟨p', _, cap', w', hrun, .buf p' (a ++ (b.take (i + 1)).map negD).length cap' (ds ++ (negD b[i]).cells r rc) 39 3 :: R, _, hst3, cx'.weak fun M w h => ⟨h.1, ?_⟩, by unfold I64; omega, _, _, b.length - (i + 1), hst3, fun w G cx => cx, ⟨i + 1, _, by omega, hlt, rfl, rfl, rfl, rfl⟩, by omega⟩
    rw [htk]
    exact h.2.snoc (rep_delta (x := negD b[i]) h1 h2 h3 (w64_in _) (show Sl M w r b[i].row from pin_row (hΨ M w h.1) hlt he))
  · have hge := of_decide_eq_false hge
    have hi : i = b.length := by omega
    subst hi
    have hall : a ++ (b.take b.length).map negD = a ++ b.map negD := by rw [List.take_length]
    rw [hall] at cx ⊢
    obtain ⟨cx3, hs, _⟩ := Ctx.freeze (α := DeltaD) cx.fst cx.phi.2
    have hst4 : Stable (fun M w => Φ M w ∧ Sl M w sp (a ++ b.map negD)) := inferInstance
    refine (Consolidate_sl (Φ := fun M w => Φ M w ∧ Sl M w sp (a ++ b.map negD)) sp sc (a ++ b.map negD) (fun M w h => h.2) (by simp; omega) (fun x hx => ?_)).use (cx3.add hs) fun p3 c3 w h1 h2 cx => ⟨p3, _, c3, rfl, R, fun M w => Φ M w ∧ Sl M w p3 (subP a b), inferInstance, cx.weak fun M w h => ⟨h.1.1, h.2⟩, fun w G cx => ⟨p3, c3, rfl, h1, h2, cx.left⟩⟩
    rcases List.mem_append.1 hx with hx | hx
    · exact hra x hx
    · obtain ⟨y, hy, rfl⟩ := List.mem_map.1 hx
      exact hrb y hy

theorem Sub_sl {Φ : PW} [Stable Φ] (p : Option Addr) (cap : Nat) (a : List DeltaD) (q : Option Addr) (cap2 : Nat) (b : List DeltaD) (hΦ : ∀ M w, Φ M w → Sl M w p a) (hΨ : ∀ M w, Φ M w → Sl M w q b)
    (ha : a.length ≤ 400000) (hb : b.length ≤ 400000) (hra : ∀ x ∈ a, x.row.length ≤ 1000000) (hrb : ∀ x ∈ b, x.row.length ≤ 1000000) : GivesSl Φ Tryd.prog F.delta_Sub #[.slice p a.length cap, .slice q b.length cap2] (subP a b) id :=
  .pinned hΨ fun g o cs hq => Sub_pin (Φ := fun M w => Φ M w ∧ Pin g o cs b M w) p cap a q cap2 b g o cs hq (fun M w h => hΦ M w h.1) (fun M w h => h.2) ha hb hra hrb

theorem Diff_sl {Φ : PW} [Stable Φ] (p : Option Addr) (cap : Nat) (a : List DeltaD) (q : Option Addr) (cap2 : Nat) (b : List DeltaD) (hΦ : ∀ M w, Φ M w → Sl M w p a) (hΨ : ∀ M w, Φ M w → Sl M w q b)
    (ha : a.length ≤ 400000) (hb : b.length ≤ 400000) (hra : ∀ x ∈ a, x.row.length ≤ 1000000) (hrb : ∀ x ∈ b, x.row.length ≤ 1000000) : GivesSl Φ Tryd.prog F.difference_Diff #[.slice p a.length cap, .slice q b.length cap2] (subP b a) id := by
  refine gives_sl (Bdifference_Diff_run p a.length cap q b.length cap2) fun W R => ?_
  exact fun w G cx => (Sub_sl q cap2 b p cap a hΨ hΦ hb ha hrb hra).use cx fun p3 c3 w h1 h2 cx => ⟨p3, _, c3, rfl, R, _, inferInstance, cx, fun w G cx => ⟨p3, c3, rfl, h1, h2, cx.left⟩⟩

end Go.Proofs.YtnapfhbibikbiaaDoor
end

/-
  What the bounds of layer 42 say, walked.
-/
section
set_option linter.unusedVariables false
set_option linter.unusedSimpArgs false
namespace Go.Proofs.YtnapfhbibikbiaaDoor
open Go.Vc


theorem Right42_pin {Φ : PW} [Stable Φ] (q : List ValD → Bool) (hq : ∀ (p : Option Addr) (cap : Nat) (l : List ValD), (∀ M w, Φ M w → Sl M w p l) → l.length ≤ 9223372036854775807 → GivesIn Φ Tryd.prog F.errataref03_RightRow #[.slice p l.length cap] (.bool (q l))) (p : Option Addr) (cap : Nat) (l : List DeltaD) (most : Int) (b o : Nat) (cs : List (List Value)) (hp : 0 < l.length → p = some ⟨b, o, none⟩) (hΦ : ∀ M w, Φ M w → Pin b o cs l M w) (hlen : l.length ≤ 9223372036854775807) :
    GivesIn Φ Tryd.prog F.errataref42_Right #[.slice p l.length cap, .int .i64 most] (.bool (decide ((l.length : Int) ≤ most) && l.all fun x => q x.row)) := by
  refine in_cells hΦ fun hcs => ?_
  refine gives_in (Berrataref42_Right_run p l.length cap most) fun W R => ?_
  refine exI_mk (fun n R' Φ' k => ∃ i : Nat, n = i ∧ i ≤ l.length ∧ R' = R ∧ Φ' = Φ ∧ k = l.length - i ∧ (l.all fun x => q x.row) = (l.drop i).all fun x => q x.row) ⟨⟨R, Φ, _, inferInstance, fun w F c => c, 0, rfl, Nat.zero_le _, rfl, rfl, rfl, rfl⟩, ?_⟩
  rintro n R1 Φ1 k _ ⟨i, rfl, hi, rfl, rfl, rfl, hs⟩
  refine fun w F cx => Br.intro (fun hlt => ?_) (fun hge => fun w F cx => ⟨?_, cx.left⟩)
  · simp only [Bool.and_eq_true, decide_eq_true_eq] at hlt
    have hlt : i < l.length := by omega
    obtain ⟨r, qc, he, g1, g2, _, _⟩ := hcs i hlt
    rw [List.drop_eq_getElem_cons hlt, List.all_cons] at hs
    refine ⟨by omega, ptrK_intro b o (hp (by omega)) fun w F cx => ⟨r, l[i].row.length, qc, ?_, fun w F cx => (hq r qc l[i].row (fun M w h => pin_row (hΦ M w h) hlt he) (len_max g1 g2)).use cx fun w cx => ⟨_, rfl, R1, Φ1, inferInstance, cx, Br.intro (fun h => fun w F cx => ⟨?_, cx.left⟩) (fun h => ⟨by unfold I64; omega, R1, Φ1, l.length - (i + 1), inferInstance, fun w F c => c, ⟨i + 1, rfl, hlt, rfl, rfl, rfl, ?_⟩, by omega⟩)⟩⟩⟩
    · rw [Int.toNat_natCast]
      have := pin_rowAt (hΦ _ _ cx.phi) hlt he 1 (by simp)
      simpa using this
    · rw [hs, show q l[i].row = false by simpa using h, Bool.false_and, Bool.and_false]
    · rw [hs, show q l[i].row = true by simpa using h, Bool.true_and]
  · simp only [Bool.and_eq_false_iff, decide_eq_false_iff_not] at hge
    by_cases hl : (l.length : Int) ≤ most
    · have hi : i = l.length := by omega
      rw [hs, hi, List.drop_length, decide_eq_true hl]
      rfl
    · rw [decide_eq_false hl, Bool.false_and]

theorem Right42_in {Φ : PW} [Stable Φ] (p : Option Addr) (cap : Nat) (l : List DeltaD) (most : Int) (hΦ : ∀ M w, Φ M w → Sl M w p l) (hlen : l.length ≤ 9223372036854775807) :
    GivesIn Φ Tryd.prog F.errataref42_Right #[.slice p l.length cap, .int .i64 most] (.bool (decide ((l.length : Int) ≤ most) && l.all fun x => rightR x.row)) :=
  .pinned hΦ fun b o cs hp => Right42_pin (Φ := fun M w => Φ M w ∧ Pin b o cs l M w) rightR (fun p cap l h hl => RightRow3_in p cap l h hl) p cap l most b o cs hp (fun _ _ h => h.2) hlen

end Go.Proofs.YtnapfhbibikbiaaDoor
end

/-
  Lines of a difference, walked.
-/
section
set_option linter.unusedVariables false
set_option linter.unusedSimpArgs false
namespace Go.Proofs.YtnapfhbibikbiaaDoor
open Go.Vc


structure LineD where
  no : Int
  batch : Int
  time : Int
  row : List ValD
  n : Int
  cause : Int
  why : Int
instance : Gv LineD := Gv.via (β := Int × Int × Int × List ValD × Int × Int × Int) (fun x => (x.no, x.batch, x.time, x.row, x.n, x.cause, x.why)) (fun y => ⟨y.1, y.2.1, y.2.2.1, y.2.2.2.1, y.2.2.2.2.1, y.2.2.2.2.2.1, y.2.2.2.2.2.2⟩) (fun _ => rfl)

abbrev LineD.cells (x : LineD) (p : Option Addr) (c : Nat) : List Value := [.int .i64 x.no, .int .i64 x.batch, .int .i64 x.time, .slice p x.row.length c, .int .i64 x.n, .int .i64 x.cause, .int .i64 x.why]
abbrev LineD.v (x : LineD) (p : Option Addr) (c : Nat) : Value := .agg #[.int .i64 x.no, .int .i64 x.batch, .int .i64 x.time, .slice p x.row.length c, .int .i64 x.n, .int .i64 x.cause, .int .i64 x.why]

structure LineD.In (x : LineD) : Prop where
  no : I64 x.no
  batch : I64 x.batch
  time : I64 x.time
  n : I64 x.n
  cause : I64 x.cause
  why : I64 x.why

theorem line_cells {M : List Nat} {w : World} {cs : List Value} {x : LineD} (h : Gv.rep M w cs x) : ∃ p c, cs = x.cells p c ∧ x.row.length ≤ c ∧ c ≤ maxLen ∧ x.In ∧ Sl M w p x.row := by
  obtain ⟨_, _, rfl, ⟨rfl, h1⟩, _, _, rfl, ⟨rfl, h2⟩, _, _, rfl, ⟨rfl, h3⟩, _, _, rfl, ⟨p, c, rfl, g1, g2, g3⟩, _, _, rfl, ⟨rfl, h4⟩, _, _, rfl, ⟨rfl, h5⟩, rfl, h6⟩ := h
  exact ⟨p, c, rfl, g1, g2, ⟨h1, h2, h3, h4, h5, h6⟩, g3⟩

theorem rep_line {M : List Nat} {w : World} {x : LineD} {p : Option Addr} {c : Nat} (h1 : x.row.length ≤ c) (h2 : c ≤ maxLen) (h : x.In) (h5 : Sl M w p x.row) : Gv.rep M w (x.cells p c) x :=
  ⟨[_], [_, _, _, _, _, _], rfl, ⟨rfl, h.no⟩, [_], [_, _, _, _, _], rfl, ⟨rfl, h.batch⟩, [_], [_, _, _, _], rfl, ⟨rfl, h.time⟩, [_], [_, _, _], rfl, ⟨p, c, rfl, h1, h2, h5⟩, [_], [_, _], rfl, ⟨rfl, h.n⟩, [_], [_], rfl, ⟨rfl, h.cause⟩, rfl, h.why⟩

theorem line_row {M : List Nat} {w : World} {x : LineD} {p : Option Addr} {c : Nat} (h : Gv.rep M w (x.cells p c) x) : Sl M w p x.row := by
  obtain ⟨p', c', e, _, _, _, h1⟩ := line_cells h
  simp only [LineD.cells, List.cons.injEq, Value.slice.injEq] at e
  rw [e.2.2.2.1.1]
  exact h1

theorem pin_line {M : List Nat} {w : World} {b o : Nat} {cs : List (List Value)} {l : List LineD} (h : Pin b o cs l M w) {j : Nat} (hj : j < l.length) : ∃ p c, cs.getD j [] = l[j].cells p c ∧ l[j].row.length ≤ c ∧ c ≤ maxLen ∧ l[j].In := by
  obtain ⟨_, h1, h2⟩ := h j hj
  obtain ⟨p, c, e, g1, g2, g3, _⟩ := line_cells h2
  exact ⟨p, c, e, g1, g2, g3⟩

theorem pinl_row {M : List Nat} {w : World} {b o : Nat} {cs : List (List Value)} {l : List LineD} (h : Pin b o cs l M w) {j : Nat} (hj : j < l.length) {p : Option Addr} {c : Nat} (e : cs.getD j [] = l[j].cells p c) : Sl M w p l[j].row := by
  have := (h j hj).2.2
  rw [e] at this
  exact line_row this

theorem pinl_rowAt {M : List Nat} {w : World} {b o : Nat} {cs : List (List Value)} {l : List LineD} (h : Pin b o cs l M w) {j : Nat} (hj : j < l.length) {p : Option Addr} {c : Nat} (e : cs.getD j [] = l[j].cells p c) : RowAt w b (o + j * 7) (l[j].cells p c) := by
  have := (h j hj).2.1
  rw [e] at this
  exact this

/-- the pinned cells, for good -/
theorem in_linesV {Φ : PW} {f : FuncId} {args : Array Value} {v : Value} {b o : Nat} {cs : List (List Value)} {l : List LineD} (hΦ : ∀ M w, Φ M w → Pin b o cs l M w)
    (h : (∀ j, (hj : j < l.length) → ∃ p c, cs.getD j [] = l[j].cells p c ∧ l[j].row.length ≤ c ∧ c ≤ maxLen ∧ l[j].In) → GivesIn Φ Tryd.prog f args v) : GivesIn Φ Tryd.prog f args v :=
  ⟨fun W w S c => (h fun j hj => pin_line (hΦ _ _ c.phi) hj).go W w S c⟩

/-! ### Lines -/
def lineP (no batch mark replace : Int) (i : Nat) (x : DeltaD) : LineD :=
  ⟨w64 (no + i), batch, x.time, x.row, x.n, if 0 < replace then 2 else if mark < x.time then 0 else 1, if 0 < replace then replace else 0⟩
def linesC (no batch mark replace : Int) (c : List DeltaD) : List LineD := c.mapIdx (lineP no batch mark replace)
def linesP (no batch mark replace : Int) (d : List DeltaD) : List LineD := linesC no batch mark replace (consP d)

theorem linesC_len (no batch mark replace : Int) (c : List DeltaD) : (linesC no batch mark replace c).length = c.length := by unfold linesC; simp
theorem linesC_at (no batch mark replace : Int) (c : List DeltaD) {i : Nat} (h : i < c.length) : (linesC no batch mark replace c)[i]'(by rw [linesC_len]; exact h) = lineP no batch mark replace i c[i] := by
  unfold linesC; simp
theorem linesC_take (no batch mark replace : Int) (c : List DeltaD) {i : Nat} (h : i < c.length) : (linesC no batch mark replace c).take (i + 1) = (linesC no batch mark replace c).take i ++ [lineP no batch mark replace i c[i]] := by
  rw [List.take_succ_eq_append_getElem (by rw [linesC_len]; exact h), linesC_at no batch mark replace c h]

set_option maxHeartbeats 1000000 in
theorem Lines_sl {Φ : PW} [Stable Φ] (p : Option Addr) (cap : Nat) (d : List DeltaD) (no batch mark replace : Int) (hΦ : ∀ M w, Φ M w → Sl M w p d) (hb : I64 batch) (hr : I64 replace)
    (hlen : d.length ≤ 1000000) (hrow : ∀ x ∈ d, x.row.length ≤ 1000000) : GivesSl Φ Tryd.prog F.difference_Lines #[.slice p d.length cap, .int .i64 no, .int .i64 batch, .int .i64 mark, .int .i64 replace] (linesP no batch mark replace d) id := by
  refine gives_sl (Bdifference_Lines_run p d.length cap no batch mark replace) fun W R => ?_
  refine fun w G cx => (Consolidate_sl p cap d hΦ hlen hrow).use cx fun q c2 w h1 h2 cx => ?_
  have hcl : (consP d).length ≤ 1000000 := Nat.le_trans (consP_len d) hlen
  unfold linesP
  generalize consP d = c at h1 cx hcl ⊢
  obtain ⟨g, o, cs, hq, cx⟩ := cx.pin cx.phi.2
  have hst0 : Stable (fun M w => (Φ M w ∧ Sl M w q c) ∧ Pin g o cs c M w) := inferInstance
  have hcs : ∀ j, (hj : j < c.length) → ∃ p k, cs.getD j [] = c[j].cells p k ∧ c[j].row.length ≤ k ∧ k ≤ maxLen ∧ I64 c[j].time ∧ I64 c[j].n := fun j hj => by
    obtain ⟨p, k, h1, h2, h3, h4, h5, _⟩ := pin_delta cx.phi.2 hj
    exact ⟨p, k, h1, h2, h3, h4, h5⟩
  refine ⟨q, _, c2, rfl, R, fun M w => Φ M w ∧ Pin g o cs c M w, inferInstance, cx.weak fun M w h => ⟨h.1.1, h.2⟩, ?_⟩
  clear cx hst0
  refine exI_mk (fun sp sn sc iI R' Φ' k => ∃ (i : Nat) (ds : List Value), iI = i ∧ i ≤ c.length ∧ i = sn ∧ R' = .buf sp sn sc ds 56 7 :: R ∧ Φ' = (fun M w => (Φ M w ∧ Pin g o cs c M w) ∧ Elems M w ds ((linesC no batch mark replace c).take i)) ∧ k = c.length - i)
    ⟨⟨.buf none 0 0 [] 56 7 :: R, fun M w => (Φ M w ∧ Pin g o cs c M w) ∧ Elems M w [] ((linesC no batch mark replace c).take 0), _, inferInstance, fun w G cx => (cx.weak fun M w h => ⟨h, Elems.nil⟩).nobuf 56 7, 0, [], rfl, Nat.zero_le _, rfl, rfl, rfl, rfl⟩, ?_⟩
  rintro sp _ sc iI R1 Φ1 k _ ⟨i, ds, rfl, hi, rfl, rfl, rfl, rfl⟩
  refine Br.intro (fun hlt => ?_) (fun hge => fun w G cx => ?_)
  · have hlt := of_decide_eq_true hlt
    have hlt : i < c.length := by omega
    obtain ⟨r, rc, he, g1, g2, g3, g4⟩ := hcs i hlt
    refine ⟨by omega, ptrK_intro g o (hq (by omega)) fun w G cx => ⟨c[i].time, r, c[i].row.length, rc, c[i].n, by rw [Int.toNat_natCast]; exact pin_rowAt cx.phi.1.2 hlt he, fun _ _ => Br.intro (fun h => ?_) (fun h => Br.intro (fun h3 => ?_) (fun h3 => ?_))⟩⟩
    case' refine_1 => obtain ⟨x, hx, hxc⟩ : ∃ x : LineD, lineP no batch mark replace i c[i] = x ∧ x = ⟨w64 (no + i), batch, c[i].time, c[i].row, c[i].n, 2, replace⟩ := ⟨_, rfl, by unfold lineP; rw [if_pos (of_decide_eq_true h), if_pos (of_decide_eq_true h)]⟩
    case' refine_2 => obtain ⟨x, hx, hxc⟩ : ∃ x : LineD, lineP no batch mark replace i c[i] = x ∧ x = ⟨w64 (no + i), batch, c[i].time, c[i].row, c[i].n, 0, 0⟩ := ⟨_, rfl, by unfold lineP; rw [if_neg (of_decide_eq_false h), if_neg (of_decide_eq_false h), if_pos (of_decide_eq_true h3)]⟩
    case' refine_3 => obtain ⟨x, hx, hxc⟩ : ∃ x : LineD, lineP no batch mark replace i c[i] = x ∧ x = ⟨w64 (no + i), batch, c[i].time, c[i].row, c[i].n, 1, 0⟩ := ⟨_, rfl, by unfold lineP; rw [if_neg (of_decide_eq_false h), if_neg (of_decide_eq_false h), if_neg (of_decide_eq_false h3)]⟩
    all_goals
      intro k w G cx
      have hin : x.In := by subst hxc; exact ⟨w64_in _, hb, g3, g4, by unfold I64; dsimp only; omega, by first | exact hr | (unfold I64; dsimp only; omega)⟩
      have hxr : x.row = c[i].row := by rw [hxc]
      obtain ⟨p', cap', w', hrun, _, cx'⟩ := Ctx.app1 (P := Tryd.prog) (ts := 23) (ty := 23) (kb := #[false, false]) (size := 7) (bytes := 72) cx (by kernel_rfl) (by omega) rfl rfl (by omega) (by omega)
      have hst3 : Stable (fun M w => (Φ M w ∧ Pin g o cs c M w) ∧ Elems M w (ds ++ x.cells r rc) ((linesC no batch mark replace c).take (i + 1))) := inferInstance
      refine ⟨p', i + 1, cap', w', hrun, .buf p' (i + 1) cap' (ds ++ x.cells r rc) 56 7 :: R, _, hst3, ?_, by unfold I64; omega, _, _, c.length - (i + 1), hst3, fun w G cx => cx, ⟨i + 1, _, by omega, hlt, rfl, rfl, rfl, rfl⟩, by omega⟩
      subst hxc
      refine cx'.weak fun M w h => ⟨h.1, ?_⟩
      rw [linesC_take no batch mark replace c hlt, hx]
      exact h.2.snoc (rep_line (by rw [hxr]; exact g1) g2 hin (by rw [hxr]; exact pin_row h.1.2 hlt he))
  · have hge := of_decide_eq_false hge
    have hi : i = c.length := by omega
    subst hi
    have hall : (linesC no batch mark replace c).take c.length = linesC no batch mark replace c := List.take_of_length_le (by rw [linesC_len]; exact Nat.le_refl _)
    rw [hall] at cx
    obtain ⟨_, f1, f2⟩ := cx.left.bufLen 0 rfl
    obtain ⟨cx3, hs, _⟩ := Ctx.freeze (α := LineD) cx.left.fst cx.left.phi.2
    exact ⟨sp, sc, by rw [linesC_len]; rfl, by rw [linesC_len]; exact f1, f2, (cx3.add hs).weak fun M w h => ⟨h.1.1, h.2⟩⟩

/-! ### Net -/
def LineD.d (x : LineD) : DeltaD := ⟨x.time, x.row, x.n⟩
def netP (l : List LineD) : List DeltaD := consP (l.map LineD.d)

/-! ### Least -/
def causeP (x y : LineD) : Bool := decide (x.cause = y.cause) || decide (x.cause = 1) && decide (y.cause = 0) && decide (x.time < y.time)
def followsP (x y : LineD) : Bool :=
  if y.no ≠ w64 (x.no + 1) then false else if y.batch ≠ x.batch then false else if y.why ≠ x.why then false else if y.time < x.time then false
  else if y.time = x.time then (if 0 ≤ cmpR x.row y.row then false else causeP x y) else causeP x y

theorem follows_in {Φ : PW} [Stable Φ] (x y : LineD) (p q : Option Addr) (c c2 : Nat) (hΦ : ∀ M w, Φ M w → Sl M w p x.row) (hΨ : ∀ M w, Φ M w → Sl M w q y.row) (hlen : x.row.length ≤ 9223372036854775807) :
    GivesIn Φ Tryd.prog F.difference_follows #[x.v p c, y.v q c2] (.bool (followsP x y)) := by
  refine gives_in (Bdifference_follows_run x.no x.batch x.time p x.row.length c x.n x.cause x.why y.no y.batch y.time q y.row.length c2 y.n y.cause y.why) fun W R => ?_
  unfold followsP
  refine fun _ _ => Br.intro (fun h => fun w G cx => ⟨by rw [if_pos (of_decide_eq_true h)], cx.left⟩) (fun h => ?_)
  rw [if_neg (of_decide_eq_false h)]
  refine Br.intro (fun h => fun w G cx => ⟨by rw [if_pos (of_decide_eq_true h)], cx.left⟩) (fun h => ?_)
  rw [if_neg (of_decide_eq_false h)]
  refine Br.intro (fun h => fun w G cx => ⟨by rw [if_pos (of_decide_eq_true h)], cx.left⟩) (fun h => ?_)
  rw [if_neg (of_decide_eq_false h)]
  refine Br.intro (fun h => fun w G cx => ⟨by rw [if_pos (of_decide_eq_true h)], cx.left⟩) (fun h => ?_)
  rw [if_neg (of_decide_eq_false h)]
  refine Br.intro (fun h => fun w G cx => ?_) (fun h => fun w G cx w G cx => ⟨by rw [if_neg (of_decide_eq_false h)]; rfl, cx.left⟩)
  rw [if_pos (of_decide_eq_true h)]
  exact (CompareRows_in p q c c2 x.row y.row hΦ hΨ hlen).use cx fun w cx => ⟨_, rfl, R, Φ, inferInstance, cx, Br.intro (fun h => fun w G cx => ⟨by rw [if_pos (of_decide_eq_true h)], cx.left⟩) (fun h => fun w G cx w G cx => ⟨by rw [if_neg (of_decide_eq_false h)]; rfl, cx.left⟩)⟩

def okL (x : LineD) : Bool := !decide (x.n = 0) && ((decide (x.cause = 2) && decide (0 < x.why)) || ((decide (x.cause = 0) || decide (x.cause = 1)) && decide (x.why = 0)))
def okAt (l : List LineD) (i : Nat) : Bool :=
  match l[i]? with
  | none => true
  | some x => okL x && (match i with
    | 0 => true
    | j + 1 => match l[j]? with
      | none => true
      | some y => followsP y x)
def leastP (l : List LineD) : Bool := (List.range l.length).all (okAt l)

theorem okAt_zero {l : List LineD} (h : 0 < l.length) : okAt l 0 = okL l[0] := by
  unfold okAt; rw [List.getElem?_eq_getElem h]; simp
theorem okAt_succ {l : List LineD} {j : Nat} (h : j + 1 < l.length) : okAt l (j + 1) = (okL l[j + 1] && followsP l[j] l[j + 1]) := by
  unfold okAt
  rw [List.getElem?_eq_getElem h]
  simp only [List.getElem?_eq_getElem (show j < l.length by omega)]
theorem okAt_bad {l : List LineD} {i : Nat} (h : i < l.length) (hx : okL l[i] = false) : okAt l i = false := by
  cases i with
  | zero => rw [okAt_zero h, hx]
  | succ j => rw [okAt_succ h, hx, Bool.false_and]
theorem least_bad {l : List LineD} {i : Nat} (h : i < l.length) (hx : okAt l i = false) : leastP l = false := by
  unfold leastP
  cases e : (List.range l.length).all (okAt l) with
  | false => rfl
  | true =>
    rw [List.all_eq_true] at e
    rw [e i (List.mem_range.2 h)] at hx
    cases hx
theorem range_all {f : Nat → Bool} {i : Nat} (h : (List.range i).all f = true) (hi : f i = true) : (List.range (i + 1)).all f = true := by
  rw [List.range_succ, List.all_append, h]
  simp [hi]

end Go.Proofs.YtnapfhbibikbiaaDoor
end

/-
  Least, at, small, walked.
-/
section
set_option linter.unusedVariables false
set_option linter.unusedSimpArgs false
namespace Go.Proofs.YtnapfhbibikbiaaDoor
open Go.Vc


theorem okL_zero {x : LineD} (h : x.n = 0) : okL x = false := by unfold okL; rw [decide_eq_true h]; rfl

set_option maxHeartbeats 1000000 in
theorem Least_pin {Φ : PW} [Stable Φ] (q : Option Addr) (cap : Nat) (l : List LineD) (g o : Nat) (cs : List (List Value)) (hq : 0 < l.length → q = some ⟨g, o, none⟩) (hΨ : ∀ M w, Φ M w → Pin g o cs l M w) (hlen : l.length ≤ 1000000) :
    GivesIn Φ Tryd.prog F.difference_Least #[.slice q l.length cap] (.bool (leastP l)) := by
  refine in_linesV hΨ fun hcs => ?_
  refine gives_in (Bdifference_Least_run q l.length cap) fun W R => ?_
  refine exI_mk (fun iI R' Φ' k => ∃ i : Nat, iI = i ∧ i ≤ l.length ∧ R' = R ∧ Φ' = Φ ∧ k = l.length - i ∧ (List.range i).all (okAt l) = true)
    ⟨⟨R, Φ, _, inferInstance, fun w G cx => cx, 0, rfl, Nat.zero_le _, rfl, rfl, rfl, rfl⟩, ?_⟩
  rintro iI R1 Φ1 k _ ⟨i, rfl, hi, rfl, rfl, rfl, hs⟩
  refine Br.intro (fun hlt => ?_) (fun hge => fun w G cx => ?_)
  · have hlt := of_decide_eq_true hlt
    have hlt : i < l.length := by omega
    obtain ⟨r, rc, he, h1, h2, h3⟩ := hcs i hlt
    refine ⟨by omega, ptrK_intro g o (hq (by omega)) fun w G cx => ⟨l[i].no, l[i].batch, l[i].time, r, l[i].row.length, rc, l[i].n, l[i].cause, l[i].why, by rw [Int.toNat_natCast]; exact pinl_rowAt (hΨ _ _ cx.phi) hlt he, fun _ w G cx w G cx => ⟨R1, Φ1, inferInstance, fun w G cx => cx, ?_⟩⟩⟩
    clear cx
    refine Br.intro (fun h0 => fun w G cx => ⟨?_, cx.left⟩) (fun h0 => Br.intro (fun hr => Br.intro (fun ho => fun w G cx => ⟨?_, cx.left⟩) (fun ho => ?_)) (fun hr => ?_))
    · rw [least_bad hlt (okAt_bad hlt (okL_zero (of_decide_eq_true h0)))]
    · refine congrArg Value.bool ?_
      rw [least_bad hlt (okAt_bad hlt ?_)]
      unfold okL
      rw [show (decide (l[i].cause = 2) && decide (0 < l[i].why)) = false by simpa only [Bool.not_eq_true'] using hr, show ((decide (l[i].cause = 0) || decide (l[i].cause = 1)) && decide (l[i].why = 0)) = false by simpa only [Bool.not_eq_true'] using ho, Bool.or_false, Bool.and_false]
    case' refine_1.refine_3 =>
      have hok : okL l[i] = true := by
        unfold okL
        rw [h0, show ((decide (l[i].cause = 0) || decide (l[i].cause = 1)) && decide (l[i].why = 0)) = true by simpa only [Bool.not_eq_false'] using ho, Bool.or_true]; rfl
    case' refine_1.refine_4 =>
      have hok : okL l[i] = true := by
        unfold okL
        rw [h0, show (decide (l[i].cause = 2) && decide (0 < l[i].why)) = true by simpa only [Bool.not_eq_false'] using hr, Bool.true_or]; rfl
    all_goals
      refine Br.intro (fun hpos => ?_) (fun hpos => ⟨by unfold I64; omega, _, _, l.length - (i + 1), inferInstance, fun w G cx => cx, ⟨i + 1, by omega, hlt, rfl, rfl, rfl, range_all hs ?_⟩, by omega⟩)
      · have hpos := of_decide_eq_true hpos
        obtain ⟨j, rfl⟩ : ∃ j, i = j + 1 := ⟨i - 1, by omega⟩
        have hj : j < l.length := by omega
        have hji : (((j + 1 : Nat) : Int) - 1).toNat = j := by omega
        obtain ⟨r2, rc2, he2, f1, f2, f3⟩ := hcs j hj
        have hcall := follows_in (Φ := Φ1) l[j] l[j + 1] r2 r rc2 rc (fun M w h => pinl_row (hΨ M w h) hj he2) (fun M w h => pinl_row (hΨ M w h) hlt he) (len_max f1 f2)
        refine ⟨by unfold I64; omega, by omega, ptrK_intro g o (hq (by omega)) ⟨l[j].no, l[j].batch, l[j].time, r2, l[j].row.length, rc2, l[j].n, l[j].cause, l[j].why, fun w G cx => ⟨_, _, _, _, _, _, _, _, _, by rw [hji]; exact pinl_rowAt (hΨ _ _ cx.phi) hj he2, rfl⟩, fun w G cx => hcall.use cx fun w cx => ⟨_, rfl, R1, Φ1, inferInstance, cx, Br.intro (fun hf => fun w G cx => ⟨?_, cx.left⟩) (fun hf => ⟨by unfold I64; omega, _, _, l.length - (j + 2), inferInstance, fun w G cx => cx, ⟨j + 2, by omega, hlt, rfl, rfl, rfl, range_all hs ?_⟩, by omega⟩)⟩⟩⟩
        · refine congrArg Value.bool (least_bad hlt ?_).symm
          rw [okAt_succ hlt, show followsP l[j] l[j + 1] = false by simpa using hf, Bool.and_false]
        · rw [okAt_succ hlt, hok, show followsP l[j] l[j + 1] = true by simpa using hf]; rfl
      · have hpos := of_decide_eq_false hpos
        have hi0 : i = 0 := by omega
        subst hi0
        rw [okAt_zero hlt, hok]
  · have hge := of_decide_eq_false hge
    have hi : i = l.length := by omega
    rw [hi] at hs
    exact ⟨congrArg Value.bool hs.symm, cx.left⟩

theorem Least_in {Φ : PW} [Stable Φ] (q : Option Addr) (cap : Nat) (l : List LineD) (hΨ : ∀ M w, Φ M w → Sl M w q l) (hlen : l.length ≤ 1000000) :
    GivesIn Φ Tryd.prog F.difference_Least #[.slice q l.length cap] (.bool (leastP l)) :=
  .pinned hΨ fun g o cs hq => Least_pin (Φ := fun M w => Φ M w ∧ Pin g o cs l M w) q cap l g o cs hq (fun M w h => h.2) hlen

/-! ### the examples -/
abbrev valI (n : Int) : ValD := ⟨0, n, ByteArray.mk #[]⟩
abbrev atP (t n : Int) : DeltaD := ⟨t, [valI n], 1⟩

theorem at_use {W w : World} {S : List Own} {Φ : PW} [Stable Φ] (t n : Int) (hn : I64 n) (cx : Ctx W w S Φ) {K : Ending → World → Prop}
    (hK : ∀ k w', Ctx W w' S (fun M w => Φ M w ∧ Sl M w (some ⟨k, 0, none⟩) [valI n]) → K (.returned (.agg #[.int .i64 t, .slice (some ⟨k, 0, none⟩) 1 1, .int .i64 1])) w') : Calls Tryd.prog F.erratalaw42_at #[.int .i64 t, .int .i64 n] w K := by
  refine (Berratalaw42_at_run t n (J := fun u w' => K (.returned u) w') cx ?_).mono fun e w' ⟨v, he, hj⟩ => by rw [he]; exact hj
  intro _ k w G cx
  have hel : Gv.rep (dom (Own.blk k [.int .i64 0, .int .i64 n, .string (ByteArray.mk #[])] 65 :: (S ++ G))) w [.int .i64 0, .int .i64 n, .string (ByteArray.mk #[])] (valI n) :=
    ⟨[.int .i64 0], _, rfl, ⟨rfl, by unfold I64; dsimp only; omega⟩, [.int .i64 n], [.string (ByteArray.mk #[])], rfl, ⟨rfl, hn⟩, rfl, Nat.zero_le _⟩
  obtain ⟨cx3, hs⟩ := cx.freezeBlk (α := ValD) (l := [valI n]) (Elems.one hel)
  exact hK k w (cx3.add hs).left

end Go.Proofs.YtnapfhbibikbiaaDoor
end

/-
  small, walked; the law of lines in plain Lean.
-/
section
set_option linter.unusedVariables false
set_option linter.unusedSimpArgs false
namespace Go.Proofs.YtnapfhbibikbiaaDoor
open Go.Vc


theorem line_iff {x y : LineD} : x = y ↔ (x.no = y.no ∧ (x.batch = y.batch ∧ (x.time = y.time ∧ (x.row = y.row ∧ (x.n = y.n ∧ (x.cause = y.cause ∧ x.why = y.why)))))) := by cases x; cases y; simp
instance : DecidableEq LineD := fun _ _ => decidable_of_iff _ line_iff.symm

theorem cellL {M : List Nat} {w : World} {g o : Nat} {cs : List (List Value)} {l : List LineD} (h : Pin g o cs l M w) (j k : Nat) (hj : j < l.length) {v : Value} {e : Nat} (he : e = o + j * 7 + k) (hv : ∀ p c, (l[j].cells p c)[k]? = some v) : w.cell? ⟨g, e, none⟩ = some v := by
  obtain ⟨p, c, e1, _⟩ := pin_line h hj
  obtain ⟨hk, hv⟩ := List.getElem?_eq_some_iff.1 (hv p c)
  rw [he, ← hv]
  exact pinl_rowAt h hj e1 k hk
theorem cellD {M : List Nat} {w : World} {g o : Nat} {cs : List (List Value)} {l : List DeltaD} (h : Pin g o cs l M w) (j k : Nat) (hj : j < l.length) {v : Value} {e : Nat} (he : e = o + j * 3 + k) (hv : ∀ p c, (l[j].cells p c)[k]? = some v) : w.cell? ⟨g, e, none⟩ = some v := by
  obtain ⟨p, c, e1, _⟩ := pin_delta h hj
  obtain ⟨hk, hv⟩ := List.getElem?_eq_some_iff.1 (hv p c)
  rw [he, ← hv]
  exact pin_rowAt h hj e1 k hk

abbrev dS : List DeltaD := [⟨5, [valI 1], -1⟩, ⟨5, [valI 2], 1⟩]
abbrev aS : List LineD := [⟨7, 3, 5, [valI 1], -1, 0, 0⟩, ⟨8, 3, 5, [valI 2], 1, 0, 0⟩]
abbrev bS : List LineD := [⟨7, 3, 5, [valI 1], -1, 1, 0⟩, ⟨8, 3, 5, [valI 2], 1, 1, 0⟩]
abbrev cS : List LineD := [⟨7, 3, 5, [valI 1], -1, 2, 2⟩, ⟨8, 3, 5, [valI 2], 1, 2, 2⟩]
theorem dS_is : subP [atP 5 2] [atP 5 1] = dS := by decide
theorem aS_is : linesP 7 3 4 0 dS = aS := by decide
theorem bS_is : linesP 7 3 5 0 dS = bS := by decide
theorem cS_is : linesP 7 3 5 2 dS = cS := by decide
theorem aS_least : leastP aS = true := by decide

theorem at_rep {M : List Nat} {w : World} {k : Nat} {t n : Int} (ht : I64 t) (h : Sl M w (some ⟨k, 0, none⟩) [valI n]) : Gv.rep M w [.int .i64 t, .slice (some ⟨k, 0, none⟩) 1 1, .int .i64 1] (atP t n) :=
  rep_delta (x := atP t n) (Nat.le_refl 1) (by decide) ht (by unfold I64; dsimp only; omega) h

theorem atP_row {t n : Int} : ∀ x ∈ [atP t n], x.row.length ≤ 1000000 := by
  intro x hx; rw [List.mem_singleton.1 hx]; show 1 ≤ 1000000; decide
theorem dS_row : ∀ x ∈ dS, x.row.length ≤ 1000000 := by decide

set_option maxHeartbeats 2000000 in
theorem small_g : Gives Tryd.prog F.erratalaw42_small #[] (.bool true) := by
  refine gives_of (Berratalaw42_small_run) fun W R Φ hs => ?_
  refine fun w G cx => at_use 5 1 (by unfold I64; omega) cx fun k1 w cx => ⟨5, _, 1, 1, 1, rfl, R, fun M w => Φ M w ∧ Sl M w (some ⟨k1, 0, none⟩) [valI 1], inferInstance, cx, fun k2 w G cx => ?_⟩
  obtain ⟨cx, h1⟩ := cx.freezeBlk (α := DeltaD) (l := [atP 5 1]) (Elems.one (at_rep (by unfold I64; omega) (cx.phi.2)))
  refine at_use 5 2 (by unfold I64; omega) ((cx.add h1).weak fun M w h => (⟨h.1.1, h.2⟩ : Φ M w ∧ Sl M w (some ⟨k2, 0, none⟩) [atP 5 1])) fun k3 w cx => ⟨5, _, 1, 1, 1, rfl, R, fun M w => (Φ M w ∧ Sl M w (some ⟨k2, 0, none⟩) [atP 5 1]) ∧ Sl M w (some ⟨k3, 0, none⟩) [valI 2], inferInstance, cx, fun k4 w G cx => ?_⟩
  obtain ⟨cx, h2⟩ := cx.freezeBlk (α := DeltaD) (l := [atP 5 2]) (Elems.one (at_rep (by unfold I64; omega) (cx.phi.2)))
  refine (Diff_sl (Φ := fun M w => (Φ M w ∧ Sl M w (some ⟨k2, 0, none⟩) [atP 5 1]) ∧ Sl M w (some ⟨k4, 0, none⟩) [atP 5 2]) _ 1 [atP 5 1] _ 1 [atP 5 2] (fun M w h => h.1.2) (fun M w h => h.2) (by decide) (by decide) atP_row atP_row).use ((cx.add h2).weak fun M w h => ⟨h.1.1, h.2⟩) fun p0 c0 w g1 g2 cx => ?_
  clear h1 h2
  rw [dS_is] at cx g1 ⊢
  refine ⟨p0, 2, c0, rfl, R, fun M w => Φ M w ∧ Sl M w p0 dS, inferInstance, cx.weak fun M w h => ⟨h.1.1.1, h.2⟩, fun w G cx => ?_⟩
  refine (Lines_sl (Φ := fun M w => Φ M w ∧ Sl M w p0 dS) p0 c0 dS 7 3 4 0 (fun M w h => h.2) (by unfold I64; omega) (by unfold I64; omega) (by decide) dS_row).use cx fun p1 c1 w f1 f2 cx => ?_
  rw [aS_is] at cx f1 ⊢
  refine ⟨p1, 2, c1, rfl, R, fun M w => (Φ M w ∧ Sl M w p0 dS) ∧ Sl M w p1 aS, inferInstance, cx, fun w G cx => ?_⟩
  refine (Lines_sl (Φ := fun M w => (Φ M w ∧ Sl M w p0 dS) ∧ Sl M w p1 aS) p0 c0 dS 7 3 5 0 (fun M w h => h.1.2) (by unfold I64; omega) (by unfold I64; omega) (by decide) dS_row).use cx fun p2 c2 w f3 f4 cx => ?_
  rw [bS_is] at cx f3 ⊢
  refine ⟨p2, 2, c2, rfl, R, fun M w => ((Φ M w ∧ Sl M w p0 dS) ∧ Sl M w p1 aS) ∧ Sl M w p2 bS, inferInstance, cx, fun w G cx => ?_⟩
  refine (Lines_sl (Φ := fun M w => ((Φ M w ∧ Sl M w p0 dS) ∧ Sl M w p1 aS) ∧ Sl M w p2 bS) p0 c0 dS 7 3 5 2 (fun M w h => h.1.1.2) (by unfold I64; omega) (by unfold I64; omega) (by decide) dS_row).use cx fun p3 c3 w f5 f6 cx => ?_
  rw [cS_is] at cx f5 ⊢
  obtain ⟨gd, od, csd, hpd, cx⟩ := cx.pin cx.phi.1.1.1.2
  have hd := hpd (by decide)
  obtain ⟨ga, oa, csa, hpa, cx⟩ := cx.pin cx.phi.1.1.1.2
  have ha := hpa (by decide)
  obtain ⟨gb, ob, csb, hpb, cx⟩ := cx.pin cx.phi.1.1.1.2
  have hb := hpb (by decide)
  obtain ⟨gc, oc, csc, hpc, cx⟩ := cx.pin cx.phi.1.1.1.2
  have hc := hpc (by decide)
  refine ⟨p3, 2, c3, rfl, R, fun M w => ((((Φ M w ∧ Sl M w p1 aS) ∧ Pin gd od csd dS M w) ∧ Pin ga oa csa aS M w) ∧ Pin gb ob csb bS M w) ∧ Pin gc oc csc cS M w, inferInstance, cx.weak fun M w h => ⟨⟨⟨⟨⟨h.1.1.1.1.1.1.1.1, h.1.1.1.1.1.1.2⟩, h.1.1.1.2⟩, h.1.1.2⟩, h.1.2⟩, h.2⟩, ?_⟩
  clear hpa hpb hpc hpd cx
  refine fun w G cx => Br.intro (fun h => by exfalso; revert h; decide) (fun _ => fun w G cx => ⟨by omega, ptrK_intro gd od hd ⟨-1, cellD cx.phi.1.1.1.2 0 2 (by decide) (by omega) (fun _ _ => rfl), fun _ => by omega, ptrK_intro gd od hd ⟨1, fun _ => cellD cx.phi.1.1.1.2 1 2 (by decide) (by omega) (fun _ _ => rfl), fun _ => by omega, ptrK_intro ga oa ha ⟨7, fun _ => cellL cx.phi.1.1.2 0 0 (by decide) (by omega) (fun _ _ => rfl), fun _ => by omega, ptrK_intro ga oa ha ⟨8, fun _ => cellL cx.phi.1.1.2 1 0 (by decide) (by omega) (fun _ _ => rfl), fun _ => by omega, ptrK_intro ga oa ha ⟨0, fun _ => cellL cx.phi.1.1.2 0 5 (by decide) (by omega) (fun _ _ => rfl), fun _ => by omega, ptrK_intro ga oa ha ⟨3, fun _ => cellL cx.phi.1.1.2 0 1 (by decide) (by omega) (fun _ _ => rfl), Br.intro (fun _ => ?_) (fun h => by exfalso; revert h; decide)⟩⟩⟩⟩⟩⟩⟩)
  refine ⟨by omega, ptrK_intro gb ob hb fun w G cx => ⟨1, cellL cx.phi.1.2 0 5 (by decide) (by omega) (fun _ _ => rfl), Br.intro (fun _ => ?_) (fun h => by exfalso; revert h; decide)⟩⟩
  refine ⟨by omega, ptrK_intro gc oc hc fun w G cx => ⟨2, cellL cx.phi.2 1 5 (by decide) (by omega) (fun _ _ => rfl), Br.intro (fun _ => ?_) (fun h => by exfalso; revert h; decide)⟩⟩
  refine ⟨by omega, ptrK_intro gc oc hc fun w G cx => ⟨2, cellL cx.phi.2 1 6 (by decide) (by omega) (fun _ _ => rfl), Br.intro (fun _ => ?_) (fun h => by exfalso; revert h; decide)⟩⟩
  have hcall := Least_in (Φ := fun M w => ((((Φ M w ∧ Sl M w p1 aS) ∧ Pin gd od csd dS M w) ∧ Pin ga oa csa aS M w) ∧ Pin gb ob csb bS M w) ∧ Pin gc oc csc cS M w) p1 c1 aS (fun M w h => h.1.1.1.1.2) (by decide)
  rw [aS_least] at hcall
  exact fun w G cx => hcall.use cx fun w cx => ⟨true, rfl, R, Φ, inferInstance, cx.weak fun M w h => h.1.1.1.1.1, fun w G cx => ⟨rfl, cx.left⟩⟩

end Go.Proofs.YtnapfhbibikbiaaDoor
end

/-
  The law DifferenceParts, in plain Lean and walked.
-/
section
set_option linter.unusedVariables false
set_option linter.unusedSimpArgs false
namespace Go.Proofs.YtnapfhbibikbiaaDoor
open Go.Vc


theorem i64_and15 (n : Int) : bits .and .i64 n 15 = n % 16 := by
  have h15 : (BitVec.ofInt 64 15).toNat = 2 ^ 4 - 1 := by decide
  have key : (BitVec.ofInt 64 n &&& BitVec.ofInt 64 15).toNat = (n % ((2 ^ 64 : Nat) : Int)).toNat % 2 ^ 4 := by
    rw [BitVec.toNat_and, BitVec.toNat_ofInt, h15, Nat.and_two_pow_sub_one_eq_mod]
  show IntKind.i64.wrap ((BitVec.ofInt 64 n &&& BitVec.ofInt 64 15).toNat : Nat) = n % 16
  rw [key, IntKind.wrap_i64]
  omega
theorem run_and15 {P : Program} {t : TypeId} (n : Int) (w : World) : Sem.run P (binOp .and t (.int .i64 n) (.int .i64 15)) w = .ok (.int .i64 (n % 16)) w := by
  rw [binOp_and, intBits_and, i64_and15]
  rfl

/-! ### in plain Lean -/
theorem sumK_filter {f : DeltaD → Bool} {k : Key} {g : Bool} : ∀ {l : List DeltaD}, (∀ x ∈ l, x.key = k → f x = g) → sumK (l.filter f) k = if g then sumK l k else 0
  | [], _ => by cases g <;> rfl
  | x :: l, h => by
    have ih := sumK_filter (f := f) (k := k) (g := g) (l := l) fun y hy => h y (by simp [hy])
    by_cases hk : x.key = k
    · have hx := h x (by simp) hk
      cases g
      · rw [List.filter_cons_of_neg (by rw [hx]; simp), ih]; rfl
      · rw [List.filter_cons_of_pos hx]
        simp only [sumK]
        rw [ih]; rfl
    · by_cases hf : f x = true
      · rw [List.filter_cons_of_pos hf]
        simp only [sumK]
        rw [if_neg hk, ih]
        cases g
        · simp
        · simp
      · rw [List.filter_cons_of_neg hf, ih]
        simp only [sumK]
        rw [if_neg hk]
        cases g
        · simp
        · simp
theorem find_part (l : List DeltaD) (m : Int) (k : Key) : findP (partP l m) k = if bucketP k.2 = m then findP l k else 0 := by
  have h := sumK_filter (f := fun x : DeltaD => decide (bucketP x.row = m)) (k := k) (g := decide (bucketP k.2 = m)) (l := consP l) fun x _ hx => by rw [← hx]
  have h2 := (consP_norm l).2 k
  unfold partP
  unfold findP at h2 ⊢
  rw [h]
  by_cases hb : bucketP k.2 = m
  · rw [if_pos (decide_eq_true hb), if_pos hb]; exact h2
  · rw [if_neg (by simpa using hb), if_neg hb]; rfl
theorem part_len (l : List DeltaD) (m : Int) : (partP l m).length ≤ l.length := Nat.le_trans (List.length_filter_le _ _) (consP_len l)
theorem part_fit {l : List DeltaD} (m : Int) (h : ∀ x ∈ l, Fit x) : ∀ x ∈ partP l m, Fit x := fun x hx => consP_row (P := fun r => r.length ≤ 10000 ∧ ∀ v ∈ r, v.text.size ≤ 10000) h x (List.mem_filter.1 hx).1
theorem fit_rows {l : List DeltaD} (h : ∀ x ∈ l, Fit x) : Rows1 l := fun x hx => Nat.le_trans (h x hx).1 (by decide)
theorem add_fit {a b : List DeltaD} (ha : ∀ x ∈ a, Fit x) (hb : ∀ x ∈ b, Fit x) : ∀ x ∈ addP a b, Fit x := consP_row (P := fun r => r.length ≤ 10000 ∧ ∀ v ∈ r, v.text.size ≤ 10000) fun x hx => by
  rcases List.mem_append.1 hx with hx | hx
  · exact ha x hx
  · exact hb x hx
theorem sub_fit {a b : List DeltaD} (ha : ∀ x ∈ a, Fit x) (hb : ∀ x ∈ b, Fit x) : ∀ x ∈ subP a b, Fit x := consP_row (P := fun r => r.length ≤ 10000 ∧ ∀ v ∈ r, v.text.size ≤ 10000) fun x hx => by
  rcases List.mem_append.1 hx with hx | hx
  · exact ha x hx
  · obtain ⟨y, hy, rfl⟩ := List.mem_map.1 hx
    exact hb y hy
theorem cons_fit {a : List DeltaD} (ha : ∀ x ∈ a, Fit x) : ∀ x ∈ consP a, Fit x := consP_row (P := fun r => r.length ≤ 10000 ∧ ∀ v ∈ r, v.text.size ≤ 10000) ha

/-- has the row's bucket been done? -/
def donP (done : List Bool) (r : List ValD) : Bool := (done[(bucketP r).toNat]?).getD false
theorem donP_at {done : List Bool} {r : List ValD} {j : Nat} (h : j < done.length) (hr : bucketP r = (j : Int)) : donP done r = done[j] := by
  unfold donP
  rw [hr, Int.toNat_natCast, List.getElem?_eq_getElem h]
  rfl
theorem donP_set {done : List Bool} {r : List ValD} {j : Nat} (h : j < done.length) : donP (done.set j true) r = (decide (bucketP r = (j : Int)) || donP done r) := by
  obtain ⟨b1, b2⟩ := bucket_bd r
  unfold donP
  by_cases hr : bucketP r = (j : Int)
  · rw [decide_eq_true hr, Bool.true_or, hr, Int.toNat_natCast, List.getElem?_set_self (by exact h)]
    rfl
  · rw [decide_eq_false hr, Bool.false_or, List.getElem?_set_ne (by omega)]

theorem len_filter_or {f g : DeltaD → Bool} : ∀ {l : List DeltaD}, (∀ x ∈ l, f x = true → g x = false) → ((l.filter fun x => f x || g x).length : Int) = (l.filter g).length + (l.filter f).length
  | [], _ => rfl
  | x :: l, h => by
    have ih := len_filter_or (f := f) (g := g) (l := l) fun y hy => h y (by simp [hy])
    by_cases hf : f x = true
    · have hg := h x (by simp) hf
      rw [List.filter_cons_of_pos (by rw [hf]; rfl), List.filter_cons_of_neg (by rw [hg]; simp), List.filter_cons_of_pos hf, List.length_cons, List.length_cons]
      omega
    · by_cases hg : g x = true
      · rw [List.filter_cons_of_pos (by rw [hg]; simp), List.filter_cons_of_pos hg, List.filter_cons_of_neg hf, List.length_cons, List.length_cons]
        omega
      · rw [List.filter_cons_of_neg (by simp [hf, hg]), List.filter_cons_of_neg hg, List.filter_cons_of_neg hf]
        exact ih

structure PInv (a b : List DeltaD) (done : List Bool) (N : List DeltaD) (t : Int) : Prop where
  len : done.length = 16
  find : ∀ k, findP N k = if donP done k.2 then findP b k else findP a k
  tot : t = (((subP b a).filter fun x => donP done x.row).length : Int)
  fit : ∀ x ∈ N, Fit x
  few : (N.length : Int) ≤ a.length + t

theorem PInv.start {a b : List DeltaD} (ha : ∀ x ∈ a, Fit x) : PInv a b (List.replicate 16 false) (consP a) 0 := by
  have hd : ∀ r, donP (List.replicate 16 false) r = false := fun r => by
    unfold donP
    rw [List.getElem?_replicate]
    split <;> rfl
  refine ⟨rfl, fun k => ?_, ?_, cons_fit ha, by have := consP_len a; omega⟩
  · rw [hd]
    exact (consP_norm a).2 k
  · have : ((subP b a).filter fun x => donP (List.replicate 16 false) x.row) = [] := List.filter_eq_nil_iff.2 fun x _ => by rw [hd]; simp
    rw [this]
    rfl
theorem PInv.step {a b : List DeltaD} {done : List Bool} {N : List DeltaD} {t : Int} (h : PInv a b done N t) (ha : ∀ x ∈ a, Fit x) (hb : ∀ x ∈ b, Fit x) {j : Nat} (hj : j < done.length) (hd : done[j] = false) :
    PInv a b (done.set j true) (addP N (partP (subP b a) (j : Int))) (t + ((partP (subP b a) (j : Int)).length : Int)) := by
  refine ⟨by rw [List.length_set]; exact h.len, fun k => ?_, ?_, add_fit h.fit (part_fit _ (sub_fit hb ha)), ?_⟩
  · rw [find_add, find_part, donP_set hj, h.find k, find_sub]
    by_cases hk : bucketP k.2 = (j : Int)
    · rw [if_pos hk, decide_eq_true hk, Bool.true_or, donP_at hj hk, hd, w64_r]
      simp only [if_true, Bool.false_eq_true, if_false]
      rw [show findP a k + (findP b k - findP a k) = findP b k by omega, find_w]
    · rw [if_neg hk, decide_eq_false hk, Bool.false_or, Int.add_zero]
      split
      · exact find_w b k
      · exact find_w a k
  · have e1 : (fun x : DeltaD => donP (done.set j true) x.row) = fun x => decide (bucketP x.row = (j : Int)) || donP done x.row := funext fun x => donP_set hj
    have e2 : partP (subP b a) (j : Int) = (subP b a).filter fun x => decide (bucketP x.row = (j : Int)) := by
      unfold partP subP
      rw [consP_cons]
    rw [e1, e2, len_filter_or (f := fun x : DeltaD => decide (bucketP x.row = (j : Int))) (g := fun x => donP done x.row) (fun x _ hx => by rw [donP_at hj (of_decide_eq_true hx), hd]), ← h.tot]
  · have h1 := addP_len N (partP (subP b a) (j : Int))
    have h2 := h.few
    omega
theorem PInv.part {a b : List DeltaD} {done : List Bool} {N : List DeltaD} {t : Int} (h : PInv a b done N t) {m : Nat} (hm : m < done.length) : consP (partP N (m : Int)) = consP (partP (if done[m] then b else a) (m : Int)) := by
  refine consP_eq fun k => ?_
  rw [find_part, find_part]
  split
  · rename_i hk
    rw [h.find k, donP_at hm hk]
    cases done[m] <;> rfl
  · rfl
theorem PInv.done {a b : List DeltaD} {done : List Bool} {N : List DeltaD} {t : Int} (h : PInv a b done N t) (hall : ∀ j, (hj : j < done.length) → done[j] = true) : consP N = consP b ∧ t = ((subP b a).length : Int) := by
  have hd : ∀ r, donP done r = true := fun r => by
    obtain ⟨b1, b2⟩ := bucket_bd r
    have hl := h.len
    have hj : (bucketP r).toNat < done.length := by omega
    rw [donP_at hj (by omega)]
    exact hall _ hj
  refine ⟨consP_eq fun k => by rw [h.find k, hd]; rfl, ?_⟩
  rw [h.tot]
  congr 2
  exact List.filter_eq_self.2 fun x _ => hd x.row
theorem PInv.bound {a b : List DeltaD} {done : List Bool} {N : List DeltaD} {t : Int} (h : PInv a b done N t) : 0 ≤ t ∧ t ≤ b.length + a.length ∧ N.length ≤ 2 * a.length + b.length := by
  have h1 := List.length_filter_le (fun x : DeltaD => donP done x.row) (subP b a)
  have h2 := subP_len b a
  have h3 := h.tot
  have h4 := h.few
  refine ⟨by omega, by omega, by omega⟩

/-- right rows are short -/
theorem right_fit {l : List DeltaD} {most : Int} (h : (decide ((l.length : Int) ≤ most) && l.all fun x => rightR x.row) = true) : (l.length : Int) ≤ most ∧ ∀ x ∈ l, Fit x := by
  rw [Bool.and_eq_true, decide_eq_true_eq, List.all_eq_true] at h
  refine ⟨h.1, fun x hx => ?_⟩
  have h2 := h.2 x hx
  unfold rightR at h2
  rw [Bool.and_eq_true, decide_eq_true_eq, List.all_eq_true] at h2
  refine ⟨by omega, fun v hv => ?_⟩
  have h3 := h2.2 v hv
  unfold rightV3 at h3
  split at h3
  · have h4 := of_decide_eq_true h3
    rw [h4]
    exact Nat.zero_le _
  · split at h3
    · rw [Bool.and_eq_true, decide_eq_true_eq, decide_eq_true_eq] at h3
      omega
    · rw [Bool.and_eq_true, Bool.and_eq_true] at h3
      have h4 := of_decide_eq_true h3.2
      rw [h4]
      exact Nat.zero_le _

/-! ### walked -/
section
variable {Φ : PW} {p q : Option Addr} {cap cap2 : Nat} {a b : List DeltaD}
theorem Diff2H [Stable Φ] [hΦ : Has Φ (fun M w => Sl M w p a)] [hΨ : Has Φ (fun M w => Sl M w q b)]
    (ha : a.length ≤ 400000) (hb : b.length ≤ 400000) (hra : Rows1 a) (hrb : Rows1 b) : GivesSl Φ Tryd.prog F.difference_Diff #[.slice p a.length cap, .slice q b.length cap2] (subP b a) id := Diff_sl p cap a q cap2 b hΦ.go hΨ.go ha hb hra hrb
theorem SameVH [Stable Φ] (v : consP a = consP b) [hΦ : Has Φ (fun M w => Sl M w p a)] [hΨ : Has Φ (fun M w => Sl M w q b)]
    (ha : a.length ≤ 400000) (hb : b.length ≤ 400000) (hra : Rows1 a) (hrb : Rows1 b) : GivesIn Φ Tryd.prog F.delta_Same #[.slice p a.length cap, .slice q b.length cap2] (.bool true) := by
  have h := Same_in p cap a q cap2 b hΦ.go hΨ.go ha hb hra hrb
  rwa [decide_eq_true v] at h
end

set_option maxHeartbeats 8000000 in
theorem Parts_in {Φ : PW} [Stable Φ] (p : Option Addr) (cap : Nat) (a : List DeltaD) (q : Option Addr) (cap2 : Nat) (b : List DeltaD) (r : Option Addr) (rc : Nat) (order : List Int)
    [hA : Has Φ (fun M w => Sl M w p a)] [hB : Has Φ (fun M w => Sl M w q b)] [hR : Has Φ (fun M w => Sl M w r order)] [hT : Has Φ TabI] (ha1 : a.length ≤ cap) (ha2 : cap ≤ maxLen) (hb1 : b.length ≤ cap2) (hb2 : cap2 ≤ maxLen) :
    GivesIn Φ Tryd.prog F.erratalaw42_DifferenceParts #[.slice p a.length cap, .slice q b.length cap2, .slice r order.length rc] (.bool true) := by
  refine .there (fun M w h => (hR.go M w h).there) fun hto => ?_
  refine gives_in (Berratalaw42_DifferenceParts_run p a.length cap q b.length cap2 r order.length rc) fun W R => ?_
  refine fun w G cx => (small_g.in).toB cx fun w G cx => (Right42_in p cap a 50 hA.go (len_max ha1 ha2)).toB cx (Br.intro (fun _ => fun w G cx => ⟨rfl, cx.left⟩) fun hf1 => ?_)
  clear cx
  refine fun w G cx => (Right42_in q cap2 b 50 hB.go (len_max hb1 hb2)).toB cx (Br.intro (fun _ => fun w G cx => ⟨rfl, cx.left⟩) fun hf2 => Br.intro (fun _ => fun w G cx => ⟨rfl, cx.left⟩) fun ho => ?_)
  clear cx
  obtain ⟨al, af⟩ := right_fit (by simpa only [Bool.not_eq_false'] using hf1)
  obtain ⟨bl, bf⟩ := right_fit (by simpa only [Bool.not_eq_false'] using hf2)
  have ho : order.length ≤ 40 := by have := of_decide_eq_false ho; omega
  clear hf1 hf2
  have ar := fit_rows af
  have br := fit_rows bf
  refine fun w G cx => (Diff2H (a := a) (b := b) (by omega) (by omega) ar br).to cx fun pd cd d1 d2 st1 => fun w G cx => (ConH (a := a) (by omega) ar).to cx fun pc cc c1 c2 st2 => ⟨⟨by omega, by omega, by omega, by omega⟩, ?_⟩
  clear cx
  have hdl := subP_len b a
  have hdf := sub_fit bf af
  intro k
  have stD : Stable (fun M w => Φ M w ∧ Sl M w pd (subP b a)) := st1
  refine exI_mk (fun np nn nc t iI R' Φ' m => ∃ (i : Nat) (N : List DeltaD) (done : List Bool), iI = i ∧ i ≤ order.length + 16 ∧ PInv a b done N t ∧ (∀ j, (hj : j < done.length) → order.length + j < i → done[j] = true) ∧ nn = N.length ∧ N.length ≤ nc ∧ nc ≤ maxLen ∧ R' = .blk k (done.map Value.bool) 4 :: R ∧ Φ' = (fun M w => (Φ M w ∧ Sl M w pd (subP b a)) ∧ Sl M w np N) ∧ m = order.length + 16 - i)
    ⟨⟨_, _, _, st2, fun w G cx => cx, 0, consP a, List.replicate 16 false, rfl, by omega, PInv.start af, fun j hj h => by omega, rfl, c1, c2, rfl, rfl, rfl⟩, ?_⟩
  rintro np _ nc t iI R1 Φ1 m hst ⟨i, N, done, rfl, hi, hinv, hdone, rfl, n1, n2, rfl, rfl, rfl⟩
  have hl16 := hinv.len
  obtain ⟨t0, t1, t2⟩ := hinv.bound
  have nr := fit_rows hinv.fit
  refine ⟨by unfold I64; omega, Br.intro (fun hlt => ?_) (fun hge => ?_)⟩
  · have hlt : i < order.length + 16 := by have := of_decide_eq_true hlt; omega
    refine ⟨by unfold I64; omega, Br.intro (fun hio => ?_) (fun hio => ?_)⟩
    case' refine_1.refine_1 =>
      have hio : i < order.length := by have := of_decide_eq_true hio; omega
      obtain ⟨g, o, rfl⟩ := hto (by omega)
      obtain ⟨j, hj⟩ : ∃ j : Nat, order[i] % 16 = (j : Int) := ⟨(order[i] % 16).toNat, by omega⟩
      have hj16 : j < done.length := by omega
      have hnew : ∀ j' : Nat, order.length + j' < i + 1 → j' = j ∨ order.length + j' < i := fun j' h => by omega
      refine ⟨by omega, ptrK_intro g o rfl fun w G cx => ⟨order[i], by rw [Int.toNat_natCast]; exact sl_int (hR.go _ _ cx.phi.1.1) hio, (j : Int), fun w => by rw [← hj]; exact run_and15 _ w, by omega, fun w G cx => ?_⟩⟩
    case' refine_1.refine_2 =>
      have hio : order.length ≤ i := by have := of_decide_eq_false hio; omega
      obtain ⟨j, hj⟩ : ∃ j : Nat, (i : Int) - order.length = (j : Int) := ⟨i - order.length, by omega⟩
      have hj16 : j < done.length := by omega
      have hnew : ∀ j' : Nat, order.length + j' < i + 1 → j' = j ∨ order.length + j' < i := fun j' h => by omega
      rw [hj]
      refine ⟨by omega, fun w G cx => ?_⟩
    all_goals
      have e0 : 0 + (j : Int).toNat = j := by omega
      refine ⟨done[j], cx.get 0 rfl (by rw [e0, List.getElem?_map, List.getElem?_eq_getElem hj16]; rfl), Br.intro (fun hd => ⟨by unfold I64; omega, _, _, order.length + 16 - (i + 1), hst, fun w G cx => cx, ⟨i + 1, N, done, by omega, by omega, hinv, fun j' hj' h => ?_, rfl, n1, n2, rfl, rfl, rfl⟩, by omega⟩) (fun hd => ⟨by omega, fun w G cx => ⟨cx.can 0 rfl (by rw [e0, List.length_map]; omega), fun w' hw' => ?_⟩⟩)⟩
      · rcases hnew j' h with rfl | h
        · exact hd
        · exact hdone j' hj' h
      rw [e0] at hw'
      have cx1 := cx.put 0 hw' rfl
      have em : (done.map Value.bool).set j (.bool true) = (done.set j true).map Value.bool := by rw [List.map_set]
      have cx2 : Ctx W w' (.blk k ((done.set j true).map Value.bool) 4 :: R ++ G) (fun M w => (Φ M w ∧ Sl M w pd (subP b a)) ∧ Sl M w np N) := by
        rw [← em]
        exact cx1
      refine ⟨_, _, hst, cx2, ?_⟩
      clear cx cx1 cx2 hw'
      have hinv2 := hinv.step af bf hj16 hd
      obtain ⟨u0, u1, u2⟩ := hinv2.bound
      have hl2 := hinv2.len
      have nr2 := fit_rows hinv2.fit
      have hpl := part_len (subP b a) (j : Int)
      have hpf := part_fit (j : Int) hdf
      have hpb : ∀ x ∈ partP (subP b a) (j : Int), bucketP x.row = (j : Int) := fun x hx => of_decide_eq_true (List.mem_filter.1 hx).2
      obtain ⟨P, hP⟩ : ∃ P, partP (subP b a) (j : Int) = P := ⟨_, rfl⟩
      have hpart := Part_sl (Φ := fun M w => (Φ M w ∧ Sl M w pd (subP b a)) ∧ Sl M w np N) (p := pd) (cap := cd) (l := subP b a) (k := (j : Int)) (by omega) hdf
      rw [hP] at hpart hinv2 u0 u1 u2 nr2 hpl hpf hpb
      refine fun w G cx => hpart.use cx fun p84 c84 w h1 h2 cx => ?_
      obtain ⟨g2, o2, cs, hp2, cx⟩ := cx.pin cx.phi.2
      have hcs := Ctx.cells cx (fun M w h => h.2)
      have stx : Stable (fun M w => (((Φ M w ∧ Sl M w pd (subP b a)) ∧ Sl M w np N) ∧ Sl M w p84 P) ∧ Pin g2 o2 cs P M w) := inferInstance
      refine ⟨p84, _, c84, rfl, _, _, stx, cx, by unfold I64; omega, ?_⟩
      clear cx
      refine fun w G cx => (AddH (Φ := fun M w => (((Φ M w ∧ Sl M w pd (subP b a)) ∧ Sl M w np N) ∧ Sl M w p84 P) ∧ Pin g2 o2 cs P M w) (p := np) (a := N) (q := p84) (b := P) n1 n2 h1 h2 (by omega) (by omega) nr (fit_rows hpf)).to cx fun p93 c93 e1 e2 sta => ?_
      clear cx
      obtain ⟨N2, hN2⟩ : ∃ N2, addP N P = N2 := ⟨_, rfl⟩
      rw [hN2] at hinv2 u2 nr2 e1 sta ⊢
      refine exI_mk (fun mI R' Φ' k1 => ∃ m : Nat, mI = m ∧ m ≤ P.length ∧ R' = .blk k ((done.set j true).map Value.bool) 4 :: R ∧ Φ' = (fun M w => ((((Φ M w ∧ Sl M w pd (subP b a)) ∧ Sl M w np N) ∧ Sl M w p84 P) ∧ Pin g2 o2 cs P M w) ∧ Sl M w p93 N2) ∧ k1 = P.length - m)
        ⟨⟨_, _, _, sta, fun w G cx => cx, 0, rfl, Nat.zero_le _, rfl, rfl, rfl⟩, ?_⟩
      rintro mI R2 Φ2 k1 _ ⟨m, rfl, hm, rfl, rfl, rfl⟩
      refine Br.intro (fun hmlt => ?_) (fun hmge => ?_)
      · have hmlt : m < P.length := by have := of_decide_eq_true hmlt; omega
        obtain ⟨q2, qc, he, f1, f2, _, _⟩ := hcs m hmlt
        have hf := hpf P[m] (List.getElem_mem hmlt)
        have hbk := hpb P[m] (List.getElem_mem hmlt)
        refine ⟨by omega, ptrK_intro g2 o2 (hp2 (by omega)) fun w G cx => ⟨q2, P[m].row.length, qc, ?_, fun w G cx => (Bucket_in (r := P[m].row) (hΦ := ⟨fun M w h => pin_row h.1.2 hmlt he⟩) hf.1 hf.2).toI cx (Br.intro (fun h => absurd hbk (of_decide_eq_true h)) (fun _ => ⟨by unfold I64; omega, _, _, P.length - (m + 1), sta, fun w G cx => cx, ⟨m + 1, by omega, hmlt, rfl, rfl, rfl⟩, by omega⟩))⟩⟩
        have := pin_rowAt cx.phi.1.2 hmlt he 1 (by simp)
        rw [Int.toNat_natCast]; simpa using this
      · have st3 : Stable (fun M w => (Φ M w ∧ Sl M w pd (subP b a)) ∧ Sl M w p93 N2) := inferInstance
        refine exI_mk (fun mI R' Φ' k1 => ∃ m : Nat, mI = m ∧ m ≤ 16 ∧ R' = .blk k ((done.set j true).map Value.bool) 4 :: R ∧ Φ' = (fun M w => (Φ M w ∧ Sl M w pd (subP b a)) ∧ Sl M w p93 N2) ∧ k1 = 16 - m)
          ⟨⟨_, _, _, st3, fun w G cx => cx.weak fun M w h => ⟨h.1.1.1.1, h.2⟩, 0, rfl, Nat.zero_le _, rfl, rfl, rfl⟩, ?_⟩
        rintro mI R3 Φ3 k1 _ ⟨m, rfl, hm, rfl, rfl, rfl⟩
        refine Br.intro (fun hmlt => ?_) (fun hmge => ?_)
        · have hmlt : m < 16 := by have := of_decide_eq_true hmlt; omega
          have hm2 : m < (done.set j true).length := by omega
          have em0 : 0 + (m : Int).toNat = m := by omega
          have hpt := hinv2.part hm2
          have hN2f := hinv2.fit
          have q1 := part_len N2 (m : Int)
          have q2 := part_len a (m : Int)
          have q3 := part_len b (m : Int)
          refine ⟨by omega, fun w G cx => ⟨(done.set j true)[m], cx.get 0 rfl (by rw [em0, List.getElem?_map, List.getElem?_eq_getElem hm2]; rfl), Br.intro (fun hd1 => ?_) (fun hd1 => ?_)⟩⟩
          · rw [hd1] at hpt
            refine fun w G cx => (Part_sl (k := (m : Int)) (l := N2) (by omega) hN2f).to cx fun p5 c5 _ _ _ => fun w G cx => (Part_sl (k := (m : Int)) (l := b) (by omega) bf).to cx fun p6 c6 _ _ _ => fun w G cx => (SameVH (a := partP N2 (m : Int)) (b := partP b (m : Int)) hpt (by omega) (by omega) (fit_rows (part_fit _ hN2f)) (fit_rows (part_fit _ bf))).toBW (Ψ := fun M w => (Φ M w ∧ Sl M w pd (subP b a)) ∧ Sl M w p93 N2) cx (Br.intro (fun h => by cases h) (fun _ => ⟨by unfold I64; omega, _, _, 16 - (m + 1), st3, fun w G cx => cx, ⟨m + 1, by omega, hmlt, rfl, rfl, rfl⟩, by omega⟩))
          · rw [hd1] at hpt
            refine fun w G cx => (Part_sl (k := (m : Int)) (l := N2) (by omega) hN2f).to cx fun p5 c5 _ _ _ => fun w G cx => (Part_sl (k := (m : Int)) (l := a) (by omega) af).to cx fun p6 c6 _ _ _ => fun w G cx => (SameVH (a := partP N2 (m : Int)) (b := partP a (m : Int)) hpt (by omega) (by omega) (fit_rows (part_fit _ hN2f)) (fit_rows (part_fit _ af))).toBW (Ψ := fun M w => (Φ M w ∧ Sl M w pd (subP b a)) ∧ Sl M w p93 N2) cx (Br.intro (fun h => by cases h) (fun _ => ⟨by unfold I64; omega, _, _, 16 - (m + 1), st3, fun w G cx => cx, ⟨m + 1, by omega, hmlt, rfl, rfl, rfl⟩, by omega⟩))
        · refine ⟨by unfold I64; omega, _, _, order.length + 16 - (i + 1), st3, fun w G cx => cx, ⟨i + 1, N2, done.set j true, by omega, by omega, hinv2, fun j' hj' h => ?_, rfl, e1, e2, rfl, rfl, rfl⟩, by omega⟩
          rw [List.getElem_set]
          split
          · rfl
          · rename_i hjj
            rw [List.length_set] at hj'
            rcases hnew j' h with rfl | h
            · exact absurd rfl hjj
            · exact hdone j' hj' h
  · have hge : i = order.length + 16 := by have := of_decide_eq_false hge; omega
    obtain ⟨hs, ht⟩ := hinv.done fun j hj => hdone j hj (by omega)
    refine Br.intro (fun _ => ?_) (fun h => by cases h)
    refine fun w G cx => (SameVH (a := N) (b := b) hs (by omega) (by omega) nr br).toB cx (Br.intro (fun _ => fun w G cx => ⟨?_, cx.left.drop1.weak fun M w h => h.1.1⟩) (fun h => by cases h))
    rw [decide_eq_true ht]

end Go.Proofs.YtnapfhbibikbiaaDoor
end

/-
  From what a row lists as laid to the table of the powers of ten.
-/
section
set_option linter.unusedVariables false
set_option linter.unusedSimpArgs false
namespace Go.Proofs.YtnapfhbibikbiaaDoor
open Go.Vc Go.RowKit

theorem tab_drop {P : Program} {w : World} : ∀ (n : Nat) {l : List (String × DataW Unit)}, laidMet P l w → laidMet P (l.drop n) w
  | 0, l, h => by rw [List.drop_zero]; exact h
  | n + 1, [], h => h
  | n + 1, x :: l, h => by rw [List.drop_succ_cons]; exact tab_drop n h.tail
/-- the table, out of a list that has it at the n-th place -/
theorem la_tab {W : World} {l : List (String × DataW Unit)} (n : Nat) (h : laidMetH Tryd.prog l W) (hp : (l.all fun x => x.2.handleName?.isNone) = true) (hd : ∃ r, l.drop n = ("internal/strconv.uint64pow10", Lib.tabData .u64 Lib.pow10Tab) :: r) : TabI [] W := by
  rw [MakeChecks.laidMetH_plain Tryd.prog l W hp] at h
  obtain ⟨r, hr⟩ := hd
  have h2 := tab_drop n h
  rw [hr] at h2
  exact Tab.start (Lib.tabIs_of_head (k := .u64) (zs := Lib.pow10Tab) (g := 1) (t := 112) (e := 105) (n := 20) (by kernel_rfl) (by kernel_rfl) (by kernel_rfl) (by kernel_rfl) (by kernel_rfl) (by kernel_rfl) h2)

end Go.Proofs.YtnapfhbibikbiaaDoor
end

section
set_option linter.unusedVariables false
set_option linter.unusedSimpArgs false
namespace Go.Proofs.YtnapfhbibikbiaaDoor
open Go.ChangeShapes Go.WideShapes Go.ChangeAt Go.RowKit Go.Vc


theorem df_own : ownKnob Tryd.prog.godebug = none := by kernel_rfl
theorem df_laid : laidOutB Tryd.prog = true := by kernel_rfl

theorem trodAll_n {H : Type} {enc : TypeId × Value → H} {P : Program} {w : World} {base : Nat} {spare : Nat → Bool} {held : Bool} {t0 t1 t2 : TypeId} {args : Array Value} {ds : List (DataW H)} {ps : List MemPlace} (h : DataW.TrodAll enc P w base spare held [t0, t1, t2] args.toList ds ps) :
    ∃ v0 v1 v2 d0 d1 d2 p0 p1 p2, args = #[v0, v1, v2] ∧ ds = [d0, d1, d2] ∧ ps = p0 ++ p1 ++ p2 ∧ DataW.Trod enc P w base spare held t0 v0 d0 p0 ∧ DataW.Trod enc P w base spare held t1 v1 d1 p1 ∧ DataW.Trod enc P w base spare held t2 v2 d2 p2 := by
  obtain ⟨v0, vs0, d0, ds0, p0, q0, hargs, rfl, rfl, h0, h⟩ := trodAll_cons h
  obtain ⟨v1, vs1, d1, ds1, p1, q1, rfl, rfl, rfl, h1, h⟩ := trodAll_cons h
  obtain ⟨v2, vs2, d2, ds2, p2, q2, rfl, rfl, rfl, h2, h⟩ := trodAll_cons h
  obtain ⟨rfl, rfl, rfl⟩ := trodAll_nil h
  exact ⟨v0, v1, v2, d0, d1, d2, p0, p1, p2, by cases args; simp_all, rfl, by simp, h0, h1, h2⟩

theorem door_met (os : Os) (args : Array Value) : laidMetH Tryd.prog Rows.differencePartsRow.laid ((World.doorLaid Tryd.prog 400 os).forCall (fun _ _ => 0) ⟨#[], args, []⟩).memory :=
  laidMetH_of_parts3 (fuel := 8) (laidMet_of_run' 8 (by kernel_rfl) (by kernel_rfl)) (by kernel_rfl) (by kernel_rfl)

set_option maxRecDepth 100000 in
theorem law_lifted (os : Os) (started : os.Started) (H : Type) (enc : TypeId × Value → H) :
    ReturnsInHanded {} Tryd.checked os 5 .any (fun w args => (Rows.differencePartsSpec.pre enc Tryd.prog Tryd.f5 Rows.differencePartsRow.domain false w args ∧ laidMetH Tryd.prog Rows.differencePartsRow.laid w) ∧ sizedMet enc Tryd.prog Tryd.f5 (OpenSpec.ofChange Rows.differencePartsSpec) false w args) (Rows.differencePartsSpec.post enc Tryd.prog Tryd.f5 false true false false) := by
  refine lawTrueLaid (C := Tryd.checked) (tb := 4) df_own started (by kernel_rfl) Tryd.func5 df_laid rfl ?_ rfl Tryd.underlying4 (by kernel_rfl)
    (ChangeSpec.witness_shaped (enc := enc) (C := Tryd.checked) (os := os) (X := fun w _ => laidMetH Tryd.prog Rows.differencePartsRow.laid w) false (World.doorLaid Tryd.prog 400 os) #[.slice none 0 0, .slice none 0 0, .slice none 0 0] 8 rfl (World.shaped_of_RefB (by kernel_rfl) (by kernel_rfl)) (by kernel_rfl) (by kernel_rfl) (by kernel_rfl) (door_met os _)) ?_
  · intro ds hd
    match ds, hd with
    | [_, _, _], _ => exact ⟨rfl, rfl, rfl⟩
  · intro W base args ds p hval0 hA0 _ hL
    have hval : ∀ (j : Nat) t v, Tryd.f5.params[j]? = some t → args[j]? = some v → Value.okWide Tryd.prog W .any base t v := hval0
    have hA : DataW.TrodAll enc Tryd.prog W 0 (fun _ => true) true Tryd.f5.params.toList args.toList ds p := hA0
    rw [Tryd.params5] at hA hval
    obtain ⟨v0, v1, v2, d0, d1, d2, p0, p1, p2, rfl, rfl, rfl, h0, h1, h2⟩ := trodAll_n hA
    obtain ⟨ap, ac, a, rfl, aa, ab, s0⟩ := open_sl (α := DeltaD) 12 Tryd.underlying22 (hval 0 22 v0 rfl rfl) (by kernel_rfl) h0
    obtain ⟨bp, bc, b, rfl, ba, bb, s1⟩ := open_sl (α := DeltaD) 12 Tryd.underlying22 (hval 1 22 v1 rfl rfl) (by kernel_rfl) h1
    obtain ⟨orderp, orderc, order, rfl, ordera, orderb, s2⟩ := open_sl (α := Int) 12 Tryd.underlying43 (hval 2 43 v2 rfl rfl) (by kernel_rfl) h2
    have st0 : Stable (fun M w => Sl M w orderp order) := inferInstance
    have st1 : Stable (fun M w => Sl M w bp b ∧ Sl M w orderp order) := instStableAnd (fun M w => Sl M w bp b) (fun M w => Sl M w orderp order)
    have st2 : Stable (fun M w => Sl M w ap a ∧ Sl M w bp b ∧ Sl M w orderp order) := instStableAnd (fun M w => Sl M w ap a) (fun M w => Sl M w bp b ∧ Sl M w orderp order)
    have st3 : Stable (fun M w => TabI M w ∧ Sl M w ap a ∧ Sl M w bp b ∧ Sl M w orderp order) := instStableAnd (fun M w => TabI M w) (fun M w => Sl M w ap a ∧ Sl M w bp b ∧ Sl M w orderp order)
    have fin : GivesIn (fun M w => TabI M w ∧ Sl M w ap a ∧ Sl M w bp b ∧ Sl M w orderp order) Tryd.prog 5 _ (.bool true) := Parts_in (Φ := (fun M w => TabI M w ∧ Sl M w ap a ∧ Sl M w bp b ∧ Sl M w orderp order)) ap ac a bp bc b orderp orderc order (hA := ⟨fun _ _ h => h.2.1⟩) (hB := ⟨fun _ _ h => h.2.2.1⟩) (hR := ⟨fun _ _ h => h.2.2.2⟩) (hT := ⟨fun _ _ h => h.1⟩) aa ab ba bb
    exact fin.law ⟨la_tab 2 hL (by kernel_rfl) ⟨_, rfl⟩, s0, s1, s2⟩

theorem row_holds : Rows.DifferencePartsSaid :=
  OpenClaim.holds_of_wide 5 Tryd.f5 rfl rfl rfl rfl rfl rfl rfl ⟨rfl, rfl, rfl, rfl, rfl⟩ rfl rfl rfl rfl rfl (by kernel_rfl) Tryd.func5 (by kernel_rfl)
    (of_decide_eq_true (by kernel_rfl)) (by unfold Func.isWrapper; first | (rw [if_pos (by decide +kernel)]; kernel_rfl) | (rw [if_neg (by decide +kernel)]; exact ⟨rfl, rfl⟩))
    (fun os started H enc _ => law_lifted os started H enc)

theorem parts_holds : Rows.DifferencePartsCardSaid :=
  Claim7.holds_tied_plain_at .later [] [.data, .data, .data] true Rows.differencePartsCard.stood.harness false
    row_holds (fun _ h => by cases h) (by kernel_rfl) (fun _ h => by cases h) differenceParts_row_tie rfl ⟨rfl, rfl⟩ (by kernel_rfl) rfl
    (fun f fn hf hfn => by
      obtain rfl : f = 5 := Option.some.inj ((show Tryd.prog.funcNamed Rows.differencePartsRow.func = some 5 by kernel_rfl).symm.trans hf) |>.symm
      obtain rfl : fn = Tryd.f5 := (Option.some.inj (Tryd.func5.symm.trans hfn)).symm
      exact ⟨by kernel_rfl, fun j t ht => by
        rw [Tryd.params5] at ht
        have hm := Array.mem_of_getElem? ht
        have hall : ((Tryd.f5.params.toList).all fun u => !Tryd.prog.wantsStandIn u) = true := by kernel_rfl
        rw [Tryd.params5] at hall
        exact (show Tryd.prog.wantsStandIn t = false by simpa using List.all_eq_true.1 hall t (by simpa using hm))⟩)
    (by kernel_rfl)

end Go.Proofs.YtnapfhbibikbiaaDoor
end

