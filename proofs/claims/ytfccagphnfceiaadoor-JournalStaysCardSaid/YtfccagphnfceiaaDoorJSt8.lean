/-
  For every input erratalaw06.JournalStays returns true, does not panic, comes to an end, and leaves what came in as it was; the variables that its row lists are as the program's text lays them.
  Conditions: none beyond the given statement's own (JournalStaysCardSaid).
-/
import Derived.Test.YtfccagphnfceiaaDoorJSt7
import Derived.Test.YtfccagphnfceiaaDoorJSt5
import Derived.Test.YtfccagphnfceiaaDoorJSt6
import Derived.Test.YtfccagphnfceiaaDoorCards
import Derived.MakeChecks
import Derived.Stop.LaidErr
import Derived.Lib.LaidTab
import Derived.Test.YtfccagphnfceiaaDoorTie
import Derived.SevenTiedAt
import Derived.LaidMore
import Derived.ChangeMaps5
import Derived.Test.YtfccagphnfceiaaDoorRows

/-
  A cell in memory: Set: walked.
-/
section
set_option linter.unusedVariables false
set_option linter.unusedSimpArgs false
namespace Go.Proofs.YtfccagphnfceiaaDoor
open Go.Vc

section
variable {W w : World} {S G : List Own} {Φ : PW}
theorem own_in [Stable Φ] {o : Own} {X S G : List Own} (cx : Ctx W w ((o :: (X ++ S)) ++ G) Φ) : Ctx W w (X ++ (o :: (S ++ G))) Φ := (re3 cx).perm List.perm_middle.symm
theorem own_out [Stable Φ] {o : Own} {X S G : List Own} (cx : Ctx W w (X ++ (o :: (S ++ G))) Φ) : Ctx W w ((o :: (X ++ S)) ++ G) Φ := re4 (cx.perm List.perm_middle)
theorem setC_sure {d : DsS} {c : CelS} {s : Bs} (h : ¬ 65536 < s.length) (h2 : ¬ (c.sure = false ∧ 0 < c.slot)) : setC d c s = setC2 d c s (if c.slot = 1 then 2 else 1) := by
  unfold setC; rw [if_neg h, if_neg h2]

theorem CSet_use [Stable Φ] {cb : Nat} {q : DkP} {d : DsS} {c : CelS} {s : Bs} (hq : DkQ q d) (hkp : DkK Φ q d) (hoff : ∀ M w, Φ M w → OffI M w) (cx : Ctx W w (clO cb q c :: (dkL q d ++ S)) Φ) {K : Ending → World → Prop}
    (hk : ∀ u w', DkQ (q.mv u) (setC d c s).1 → Ctx W w' (clO cb q (setC d c s).2.1 :: (dkL (q.mv u) (setC d c s).1 ++ S)) Φ → K (.returned (.int .i64 (setC d c s).2.2)) w') : Calls Tryd.prog F.cell_Cell_Set #[.pointer (some ⟨cb, 0, none⟩), .string (bs s)] w K := by
  refine (Bcell_Cell_Set_run cb 0 (bs s) (J := fun u w' => K (.returned u) w') cx (Br.intro (fun h => fun w G cx => ?_) (fun h => exI_mk (fun R' Φ' => ∃ u d1 c1, R' = clO cb q c1 :: (dkL (q.mv u) d1 ++ S) ∧ Φ' = Φ ∧ DkQ (q.mv u) d1 ∧ d1.keep = d.keep ∧ setC d c s = setC2 d1 c1 s (if c1.slot = 1 then 2 else 1)) ⟨fun w G cx => ⟨_, cx.get 0 rfl rfl, _, fun _ => cx.get 0 rfl rfl, Br.intro (fun h2 => ?_) (fun h2 => ?_)⟩, ?_⟩))).mono fun e w' ⟨v, he, hj⟩ => by rw [he]; exact hj
  · have h : 65536 < s.length := by have := of_decide_eq_true h; rw [bs_size] at this; omega
    have e : setC d c s = (d, c, 6) := by unfold setC; rw [if_pos h]
    rw [e] at hk
    exact hk q.un w hq cx.left
  all_goals have h : ¬ 65536 < s.length := by have := of_decide_eq_false h; rw [bs_size] at this; omega
  · have h2 : c.sure = false ∧ 0 < c.slot := by
      simp only [Bool.and_eq_true, decide_eq_true_eq, Bool.not_eq_true'] at h2
      exact ⟨h2.1, by omega⟩
    refine ⟨_, Φ, inferInstance, fun w G cx => cx, some ⟨q.db, 0, none⟩, fun w G cx => ⟨_, cx.get 0 rfl rfl, rfl⟩, c.file, fun w G cx => ⟨_, cx.get 0 rfl rfl, rfl⟩, fun w G cx => ?_⟩
    have ec : setC d c s = if (syncS d c.file).2 ≠ 0 then ((syncS d c.file).1, c, (syncS d c.file).2) else setC2 (syncS d c.file).1 { c with sure := true } s (if c.slot = 1 then 2 else 1) := by
      unfold setC; rw [if_neg h, if_pos h2]
    have hkeep := sync_keep d c.file
    refine Sync_use (S := clO cb q c :: (S ++ G)) hq hkp (own_in cx) fun u w hq1 cx => ?_
    rw [ec] at hk ⊢
    generalize syncS d c.file = r at hk hq1 cx hkeep
    obtain ⟨d1, e1⟩ := r
    simp only at hk hq1 cx hkeep
    refine ⟨e1, rfl, clO cb q c :: (dkL (q.mv u) d1 ++ S), Φ, inferInstance, own_out cx, Br.intro (fun h3 => fun w G cx => ?_) (fun h3 => fun w G cx => ⟨cx.can 0 rfl (by show 4 + 1 ≤ 5; omega), fun w' hw' => ?_⟩)⟩
    · rw [if_pos (of_decide_eq_true h3)] at hk
      exact hk u w hq1 cx.left
    · have c1 := cx.put 0 hw' rfl
      refine ⟨clO cb q { c with sure := true } :: (dkL (q.mv u) d1 ++ S), Φ, inferInstance, c1, _, Φ, inferInstance, fun w G cx => cx, u, d1, { c with sure := true }, rfl, rfl, hq1, hkeep, ?_⟩
      rw [if_neg (of_decide_eq_false h3)]
  · have h2 : ¬ (c.sure = false ∧ 0 < c.slot) := fun h3 => by
      simp only [Bool.and_eq_false_iff, decide_eq_false_iff_not, Bool.not_eq_false'] at h2
      rcases h2 with h2 | h2
      · rw [h3.1] at h2; cases h2
      · omega
    exact ⟨_, Φ, inferInstance, fun w G cx => cx, q.un, d, c, rfl, rfl, hq, rfl, setC_sure h h2⟩
  rintro R1 Φ st ⟨u, d1, c1, rfl, rfl, hq1, hkeep, hset⟩
  rw [hset] at hk
  refine exI_mk (fun nI R' Φ' => nI = (((if c1.slot = 1 then 2 else 1) : Nat) : Int) ∧ R' = clO cb q c1 :: (dkL (q.mv u) d1 ++ S) ∧ Φ' = Φ) ⟨fun w G cx => ⟨(c1.slot : Int), cx.get 0 rfl rfl, Br.intro (fun h3 => ⟨_, Φ, inferInstance, fun w G cx => cx, by rw [if_pos (by have := of_decide_eq_true h3; omega)]; rfl, rfl, rfl⟩) (fun h3 => ⟨_, Φ, inferInstance, fun w G cx => cx, by rw [if_neg (by have := of_decide_eq_false h3; omega)]; rfl, rfl, rfl⟩)⟩, ?_⟩
  rintro nI R1 Φ st ⟨rfl, rfl, rfl⟩
  have hsl : (if c1.slot = 1 then 2 else 1) = 1 ∨ (if c1.slot = 1 then 2 else 1) = 2 := by split; exact .inr rfl; exact .inl rfl
  generalize (if c1.slot = 1 then 2 else 1) = sl at hk hsl
  have hs3 : sl < 3 := by omega
  have hkp1 : DkK Φ (q.mv u) d1 := hkp.of hkeep u
  unfold setC2 at hk
  have hkw := write_keep d1 c1.file (offS sl) s
  refine ⟨_, Φ, inferInstance, fun w G cx => cx, ⟨by omega, by omega⟩, (offS sl : Int), fun w G cx => ⟨_, by rw [Int.toNat_natCast, Nat.zero_add]; exact off_cell (hoff _ _ cx.phi) hs3, rfl⟩, some ⟨q.db, 0, none⟩, fun w G cx => ⟨_, cx.get 0 rfl rfl, rfl⟩, c1.file, fun w G cx => ⟨_, cx.get 0 rfl rfl, rfl⟩, fun w G cx => ?_⟩
  refine Write_use (q := q.mv u) (S := clO cb q c1 :: (S ++ G)) hq1 hkp1 (by omega) (own_in cx) fun u w hq2 cx => ?_
  generalize writeS d1 c1.file (offS sl : Int) s = r at hk hq2 cx hkw
  obtain ⟨d2, e2⟩ := r
  simp only at hk hq2 cx hkw
  refine ⟨e2, rfl, clO cb q c1 :: (dkL (q.mv u) d2 ++ S), Φ, inferInstance, own_out cx, Br.intro (fun h3 => fun w G cx => ?_) (fun h3 => ?_)⟩
  · rw [if_pos (of_decide_eq_true h3)] at hk
    exact hk u w hq2 cx.left
  rw [if_neg (of_decide_eq_false h3)] at hk
  have hkp2 : DkK Φ (q.mv u) d2 := hkp.of (hkw.trans hkeep) u
  have hks := sync_keep d2 c1.file
  refine ⟨_, Φ, inferInstance, fun w G cx => cx, some ⟨q.db, 0, none⟩, fun w G cx => ⟨_, cx.get 0 rfl rfl, rfl⟩, c1.file, fun w G cx => ⟨_, cx.get 0 rfl rfl, rfl⟩, fun w G cx => ?_⟩
  refine Sync_use (q := q.mv u) (S := clO cb q c1 :: (S ++ G)) hq2 hkp2 (own_in cx) fun u w hq3 cx => ?_
  generalize syncS d2 c1.file = r at hk hq3 cx hks
  obtain ⟨d3, e3⟩ := r
  simp only at hk hq3 cx hks
  refine ⟨e3, rfl, clO cb q c1 :: (dkL (q.mv u) d3 ++ S), Φ, inferInstance, own_out cx, Br.intro (fun h4 => fun w G cx => ?_) (fun h4 => ?_)⟩
  · rw [if_pos (of_decide_eq_true h4)] at hk
    exact hk u w hq3 cx.left
  rw [if_neg (of_decide_eq_false h4)] at hk
  have hkp3 : DkK Φ (q.mv u) d3 := hkp.of (hks.trans (hkw.trans hkeep)) u
  have hkw2 := write_keep d3 c1.file 0 (hdrL sl s.length)
  refine ⟨_, Φ, inferInstance, fun w G cx => cx, some ⟨q.db, 0, none⟩, fun w G cx => ⟨_, cx.get 0 rfl rfl, rfl⟩, c1.file, fun w G cx => ⟨_, cx.get 0 rfl rfl, rfl⟩, fun w G cx => ?_⟩
  refine header_use (S := (clO cb q c1 :: (dkL (q.mv u) d3 ++ S)) ++ G) (by omega) cx fun w cx => ⟨_, rfl, clO cb q c1 :: (dkL (q.mv u) d3 ++ S), Φ, inferInstance, cx, fun w G cx => cx, fun w G cx => ?_⟩
  refine Write_use (q := q.mv u) (S := clO cb q c1 :: (S ++ G)) hq3 hkp3 (by show 5 ≤ _; omega) (own_in cx) fun u w hq4 cx => ?_
  generalize writeS d3 c1.file 0 (hdrL sl s.length) = r at hk hq4 cx hkw2
  obtain ⟨d4, e4⟩ := r
  simp only at hk hq4 cx hkw2
  refine ⟨e4, rfl, clO cb q c1 :: (dkL (q.mv u) d4 ++ S), Φ, inferInstance, own_out cx, Br.intro (fun h5 => fun w G cx => ?_) (fun h5 => fun w G cx => ⟨cx.can 0 rfl (by show 2 + 1 ≤ 5; omega), fun w' hw' => ?_⟩)⟩
  · rw [if_pos (of_decide_eq_true h5)] at hk
    exact hk u w hq4 cx.left
  rw [if_neg (of_decide_eq_false h5)] at hk
  have hkp4 : DkK Φ (q.mv u) d4 := hkp.of (hkw2.trans (hks.trans (hkw.trans hkeep))) u
  refine ⟨clO cb q { c1 with slot := sl } :: (dkL (q.mv u) d4 ++ S), Φ, inferInstance, cx.put 0 hw' rfl, fun w G cx => ⟨cx.can 0 rfl (by show 3 + 1 ≤ 5; omega), fun w' hw' => ?_⟩⟩
  refine ⟨clO cb q { c1 with slot := sl, value := s } :: (dkL (q.mv u) d4 ++ S), Φ, inferInstance, cx.put 0 hw' rfl, fun w G cx => ⟨cx.can 0 rfl (by show 4 + 1 ≤ 5; omega), fun w' hw' => ?_⟩⟩
  refine ⟨clO cb q ⟨c1.file, sl, s, false⟩ :: (dkL (q.mv u) d4 ++ S), Φ, inferInstance, cx.put 0 hw' rfl, ?_⟩
  refine ⟨_, Φ, inferInstance, fun w G cx => cx, some ⟨q.db, 0, none⟩, fun w G cx => ⟨_, cx.get 0 rfl rfl, rfl⟩, c1.file, fun w G cx => ⟨_, cx.get 0 rfl rfl, rfl⟩, fun w G cx => ?_⟩
  refine Sync_use (q := q.mv u) (S := clO cb q ⟨c1.file, sl, s, false⟩ :: (S ++ G)) hq4 hkp4 (own_in cx) fun u w hq5 cx => ?_
  generalize syncS d4 c1.file = r at hk hq5 cx
  obtain ⟨d5, e5⟩ := r
  simp only at hk hq5 cx
  refine ⟨e5, rfl, clO cb q ⟨c1.file, sl, s, false⟩ :: (dkL (q.mv u) d5 ++ S), Φ, inferInstance, own_out cx, fun w G cx => ⟨cx.can 0 rfl (by show 4 + 1 ≤ 5; omega), fun w' hw' => ?_⟩⟩
  exact ⟨clO cb q ⟨c1.file, sl, s, decide (e5 = 0)⟩ :: (dkL (q.mv u) d5 ++ S), Φ, inferInstance, cx.put 0 hw' rfl, fun w G cx => hk u w hq5 cx.left⟩
end
end Go.Proofs.YtfccagphnfceiaaDoor
end

/-
  A list of strings, as a journal holds it: a slice that grows, or one that was cut; the form.
-/
section
set_option linter.unusedVariables false
set_option linter.unusedSimpArgs false
namespace Go.Proofs.YtfccagphnfceiaaDoor
open Go.Vc

abbrev strC (l : List ByteArray) : List Value := l.map Value.string
theorem strC_len (l : List ByteArray) : (strC l).length = l.length := by simp
theorem str_oneJ (M : List Nat) (w : World) (cs : List Value) (x : ByteArray) (h : Gv.rep M w cs x) : (cs.all fun u => oneC u) = true := by
  obtain ⟨rfl, _⟩ := h
  rfl
theorem elems_strJ {M : List Nat} {w : World} {l : List ByteArray} (h : ∀ x ∈ l, x.size ≤ maxLen) : Elems M w (strC l) l := by
  refine ⟨by rw [strC_len]; exact (Nat.mul_one _).symm, fun j hj => ⟨?_, h _ (List.getElem_mem hj)⟩⟩
  show ((strC l).drop (j * 1)).take 1 = [.string l[j]]
  rw [Nat.mul_one, List.drop_eq_getElem_cons (by rw [strC_len]; exact hj), List.take_succ_cons, List.take_zero, List.getElem_map]
theorem strs_elems {M : List Nat} {w : World} {cs : List Value} {l : List ByteArray} (h : Elems M w cs l) : cs = strC l := by
  have h1 : cs.length = l.length := by have := h.1; rw [this]; exact Nat.mul_one _
  apply List.ext_getElem (by rw [h1, strC_len])
  intro i h2 h3
  rw [strC_len] at h3
  have := (h.2 i h3).1
  rw [show (Gv.ty ByteArray).size = 1 from rfl, Nat.mul_one, List.drop_eq_getElem_cons h2, List.take_succ_cons, List.take_zero] at this
  rw [List.getElem_map]
  exact (List.cons.inj this).1
theorem sl_str {M : List Nat} {w : World} {b o : Nat} {l : List ByteArray} (h : Sl M w (some ⟨b, o, none⟩) l) {i : Nat} (hi : i < l.length) : w.cell? ⟨b, o + i, none⟩ = some (.string l[i]) := by
  obtain ⟨b', o', cs, e, _, h3, rfl, _⟩ := h i hi
  cases e
  have := h3 0 (by simp)
  simpa [show (Gv.ty ByteArray).size = 1 from rfl] using this
theorem sl_take {M : List Nat} {w : World} {p : Option Addr} {l : List ByteArray} (h : Sl M w p l) (k : Nat) : Sl M w p (l.take k) := fun j hj => by
  have hj2 : j < l.length := by rw [List.length_take] at hj; omega
  have := h j hj2
  rw [List.getElem_take]
  exact this
theorem park_str {W w : World} {M : List Nat} {b : Nat} {rest : List Value} {t : TypeId} {l : List ByteArray} (h : Parked W (.blk b (strC l ++ rest) t) M w) (hs : ∀ x ∈ l, x.size ≤ maxLen) : Sl M w (some ⟨b, 0, none⟩) l := fun j hj => by
  have hr := h.rowIn (o := j) (vs := [.string l[j]]) fun i hi => by
    have hi : i = 0 := by simp at hi; omega
    subst hi
    rw [Nat.add_zero, List.getElem?_append_left (by rw [strC_len]; exact hj), List.getElem?_map, List.getElem?_eq_getElem hj]; rfl
  refine ⟨b, 0, [.string l[j]], rfl, hr.1, ?_, rfl, hs _ (List.getElem_mem hj)⟩
  rw [show (Gv.ty ByteArray).size = 1 from rfl, Nat.zero_add, Nat.mul_one]
  exact hr.2.1

inductive SB : Option Addr → Nat → List ByteArray → Own → Prop
  | buf (p : Option Addr) (cap : Nat) (l : List ByteArray) : SB p cap l (.buf p l.length cap (strC l) 9 1)
  | cut (g : Nat) (l : List ByteArray) (cs : List Value) : SB (some ⟨g, 0, none⟩) l.length l (.blk g (strC l ++ cs) 9)

section
variable {W w : World} {S G : List Own} {Φ : PW} {p : Option Addr} {cap : Nat} {l : List ByteArray} {o : Own}
theorem SB.sl [Stable Φ] (h : SB p cap l o) {M : List Nat} (hs : ∀ x ∈ l, x.size ≤ maxLen) (ha : Go.Vc.Aside W [o] Φ M w) : Sl M w p l := by
  have hp := ha.parked (o := o) (by simp)
  cases h with
  | buf => exact hp.sl (D := []) (elems_strJ hs)
  | cut g l cs => exact park_str hp hs
theorem SB.get (h : SB p cap l o) (cx : Ctx W w (o :: S) Φ) {i : Nat} (hi : i < l.length) : ∃ g, p = some ⟨g, 0, none⟩ ∧ w.cell? ⟨g, i, none⟩ = some (.string l[i]) := by
  cases h with
  | buf =>
    obtain ⟨g, hg, _, h2⟩ := cx.bufCell 0 rfl (by rw [strC_len]; omega)
    exact ⟨g, hg, (h2 i _ (by rw [List.getElem?_map, List.getElem?_eq_getElem hi]; rfl)).1⟩
  | cut g l cs => exact ⟨g, rfl, cx.get 0 rfl (by rw [List.getElem?_append_left (by rw [strC_len]; exact hi), List.getElem?_map, List.getElem?_eq_getElem hi]; rfl)⟩
theorem SB.cutAt [Stable Φ] (h : SB p cap l o) (cx : Ctx W w (o :: S) Φ) {k : Nat} (hk : k < l.length) : ∃ g o', p = some ⟨g, 0, none⟩ ∧ k ≤ cap ∧ SB p k (l.take k) o' ∧ Ctx W w (o' :: S) Φ := by
  have hlen : (l.take k).length = k := by rw [List.length_take]; omega
  cases h with
  | buf =>
    obtain ⟨b, cur, h1, hb, htake, hnc, hcm, hcl, hl⟩ := cx.bufBlk 0 rfl (by rw [strC_len]; omega)
    have e : cur = strC (l.take k) ++ cur.drop k := by
      conv => lhs; rw [← List.take_append_drop k cur]
      congr 1
      have : (cur.take (l.length * 1)).take k = (strC l).take k := by rw [htake]
      rw [Nat.mul_one, List.take_take, Nat.min_eq_left (by omega)] at this
      rw [this, ← List.map_take]
    have hsb := SB.cut b (l.take k) (cur.drop k)
    rw [hlen, ← e] at hsb
    subst h1
    exact ⟨b, _, rfl, by omega, hsb, cx.upd (k := 0) (o' := .blk b cur 9) rfl (Chg.refl _ _) (fun x hx => .inl hx) (Own.nodup _) hb⟩
  | cut g l cs =>
    have hsb := SB.cut g (l.take k) (strC (l.drop k) ++ cs)
    rw [hlen, ← List.append_assoc, ← List.map_append, List.take_append_drop] at hsb
    exact ⟨g, _, rfl, by omega, hsb, cx⟩
theorem SB.app [Stable Φ] (h : SB p cap l o) (cx : Ctx W w (o :: S) Φ) {q : Option Addr} {c2 : Nat} {l2 : List ByteArray} (hsl : ∀ M w, Φ M w → Sl M w q l2) (h0 : 0 < l2.length) (hlen : l.length + l2.length < 100000000) :
    ∃ p' cap' w' o', Sem.run Tryd.prog (builtin Builtin.append #[36, 36] 36 #[false, false] #[.slice p l.length cap, .slice q l2.length c2]) w = .ok (.value (.slice p' (l.length + l2.length) cap')) w' ∧ SB p' cap' (l ++ l2) o' ∧ Ctx W w' (o' :: S) Φ := by
  cases h with
  | buf =>
    obtain ⟨p', cap', w', news, hr, _, c'⟩ := cx.appSl (P := Tryd.prog) (ts := 36) (ty := 36) (kb := #[false, false]) (bytes := 16) (c2 := c2) (by kernel_rfl) str_oneJ hsl h0 hlen (by omega)
    have e := strs_elems c'.phi.2
    subst e
    have hsb := SB.buf p' cap' (l ++ l2)
    rw [List.length_append] at hsb
    refine ⟨p', cap', w', _, hr, hsb, ?_⟩
    rw [show strC (l ++ l2) = strC l ++ strC l2 from List.map_append]
    exact c'.weak fun _ _ h => h.1
  | cut g l cs =>
    obtain ⟨i, z, e1, e2, e3, e4, e5, e6⟩ := appB_out (P := Tryd.prog) (ts := 36) (t := 9) (size := 1) (bytes := 16) (by kernel_rfl)
    obtain ⟨b2, o2, news, hp, g1, g2, g3, g4⟩ := (hsl _ _ cx.phi).cells str_oneJ h0
    have e := strs_elems g3
    subst e
    subst hp
    have holds : ∀ j u, (strC l)[j]? = some u → w.cell? ((⟨g, 0, none⟩ : Addr).add j) = some u := by
      intro j u hj
      rw [addr_add, Nat.zero_add]
      exact cx.get 0 rfl (by rw [List.getElem?_append_left (List.getElem?_eq_some_iff.1 hj).1]; exact hj)
    have hr := run_append_grow (P := Tryd.prog) w 36 36 9 i z e1 e2 e3 ⟨g, 0, none⟩ l.length l.length (strC l) (by rw [e4, strC_len, Nat.mul_one]) holds ⟨b2, o2, none⟩ l2.length c2 (strC l2) (by rw [e4, strC_len, Nat.mul_one]) (fun j u hj => by rw [addr_add]; exact g2 j u hj) (by omega) (by omega) (growslice_fits (by omega) (by rw [e6]; omega))
    have hge := grownCap_ge w (l.length + l2.length) l.length 9
    have hcm : grownCap w (l.length + l2.length) l.length 9 ≤ maxLen := grownCap_le_maxLen w (l.length + l2.length) l.length 9 (by simp only [maxLen]; omega)
    have hsb := SB.buf (some ⟨w.heap.size, 0, none⟩) (grownCap w (l.length + l2.length) l.length 9) (l ++ l2)
    refine ⟨_, _, _, _, run_app hr, hsb, ?_⟩
    refine Ctx.new' (cx.drop1.draw 1) _ _ (by simp [Own.dom]) ⟨by rw [strC_len, Nat.mul_one], .inr ⟨w.heap.size, _, _, by rw [List.length_append], Nat.zero_le _, hp_alloc_new w.drew _, by rw [List.length_append]; exact hge, hcm, ?_, ?_⟩⟩
    · simp only [Array.size_append, List.size_toArray, size_zeroCells, strC_len, e5]
      omega
    · simp only [Array.toList_append, List.append_assoc]
      rw [← List.append_assoc, show strC (l ++ l2) = strC l ++ strC l2 from List.map_append, show (l ++ l2).length * 1 = (strC l ++ strC l2).length by rw [List.length_append, List.length_append, strC_len, strC_len, Nat.mul_one]]
      exact List.take_left
end
end Go.Proofs.YtfccagphnfceiaaDoor
end

/-
  The form of a list; the numbers in the cell; reading a list: walked.
-/
section
set_option linter.unusedVariables false
set_option linter.unusedSimpArgs false
namespace Go.Proofs.YtfccagphnfceiaaDoor
open Go.Vc

section
variable {W w : World} {S G : List Own} {Φ : PW} {p : Option Addr} {cap : Nat} {l : List ByteArray} {o : Own}
theorem form_in [Stable Φ] (hT : ∀ M w, Φ M w → TabI M w) (hsl : ∀ M w, Φ M w → Sl M w p l) (hlen : (formL l).length ≤ 1000000000) : GivesIn Φ Tryd.prog F.journal_form #[.slice p l.length cap] (.string (bs (formL l))) := by
  refine .there (fun M w h => (hsl M w h).there) fun hth => ?_
  have hn := formL_len (l := l) fun x hx => Nat.le_trans (formL_size hx) (by omega)
  refine gives_in (Bjournal_form_run p l.length cap) fun W R => fun b => ?_
  refine exI_mk (fun iI R' Φ' k => ∃ (i : Nat) (Q : List Own), iI = i ∧ i + k = l.length ∧ BdT b (formL (l.take i)) Q ∧ R' = Q ++ R ∧ Φ' = Φ) ⟨?_, ?_⟩
  · refine ⟨_, Φ, l.length, inferInstance, fun w G cx => ?_, 0, [.blk b [.pointer none, .slice none 0 0] 98, .buf none 0 0 (Lib.byteCells []) 5 1], rfl, by omega, Bd.nil, rfl, rfl⟩
    exact Bd.fresh cx
  rintro iI R2 Φ k _ ⟨i, Q, rfl, hik, hQ, rfl, rfl⟩
  refine Br.intro (fun hlt => ?_) (fun hge => fun w G cx => ?_)
  · have hlt : i < l.length := by have := of_decide_eq_true hlt; omega
    obtain ⟨k, rfl⟩ : ∃ m, k = m + 1 := ⟨k - 1, by omega⟩
    obtain ⟨g, o, rfl⟩ := hth (by omega)
    have hsz := formL_size (List.getElem_mem hlt)
    have hstep : formL (l.take (i + 1)) = formL (l.take i) ++ (textB l[i]).data.toList := by
      rw [List.take_succ_eq_append_getElem hlt, formL_app]
      simp [formL]
    have hle : (formL (l.take (i + 1))).length ≤ (formL l).length := by
      have e : formL l = formL (l.take (i + 1)) ++ formL (l.drop (i + 1)) := by rw [← formL_app, List.take_append_drop]
      rw [e, List.length_append]; omega
    refine ⟨⟨by omega, by omega⟩, ptrK_intro g o rfl fun w G cx => ⟨l[i], by rw [Int.toNat_natCast]; exact sl_str (hsl _ _ cx.phi) hlt, fun w G cx => (Text_in (Φ := Φ) (.inl ⟨hT, by unfold I64; omega⟩) (by omega)).use cx fun w cx => ⟨_, rfl, Q ++ R, Φ, inferInstance, cx, fun w G cx => ?_⟩⟩⟩
    refine WriteString_use (textB l[i]) hQ (cx.re (List.append_assoc _ _ _)) (by rw [hstep, List.length_append, list_size] at hle; omega) fun Q' w hQ' cx => ⟨_, _, rfl, Q' ++ R, Φ, inferInstance, by rw [List.append_assoc]; exact cx, by unfold I64; omega, _, Φ, k, inferInstance, fun w G cx => cx, ⟨i + 1, Q', by omega, by omega, ?_, rfl, rfl⟩, Nat.lt_succ_self _⟩
    rw [hstep]; exact hQ'
  · have hge : i = l.length := by have := of_decide_eq_false hge; omega
    subst hge
    rw [List.take_length] at hQ
    exact String_use hQ (cx.re (List.append_assoc _ _ _)) fun w cx => ⟨_, rfl, R, Φ, inferInstance, cx, fun w G cx => ⟨rfl, cx.left⟩⟩

theorem numbers_use [Stable Φ] (hN : ∀ M w, Φ M w → NumI M w) {cb : Nat} {q : DkP} {c : CelS} (hl : c.value.length ≤ 1000000000) (cx : Ctx W w (clO cb q c :: S) Φ) {K : Ending → World → Prop}
    (hk : ∀ w', Ctx W w' (clO cb q c :: S) Φ → K (.returned (.tuple #[.int .i64 (numsJ c).1, .int .i64 (numsJ c).2.1, .bool (numsJ c).2.2])) w') : Calls Tryd.prog F.journal_numbers #[.pointer (some ⟨cb, 0, none⟩)] w K := by
  refine (Bjournal_numbers_run cb 0 (J := fun u w' => K (.returned u) w') cx fun w G cx => CGet_use (S := S ++ G) cx fun w cx => ⟨_, _, rfl, clO cb q c :: S, Φ, inferInstance, cx, Br.intro (fun h => fun w G cx => ?_) (fun h => fun w G cx => ?_)⟩).mono fun e w' ⟨v, he, hj⟩ => by rw [he]; exact hj
  · have h : c.slot = 0 := by
      have : ¬ 0 < c.slot := by simpa using h
      omega
    have e : numsJ c = (0, 0, true) := by unfold numsJ; rw [if_pos h]
    rw [e] at hk
    exact hk w cx.left
  · have h : ¬ c.slot = 0 := by
      have : 0 < c.slot := by simpa using h
      omega
    have e : numsJ c = ((rdNat (c.value, false)).1, (rdNat (rdNat (c.value, false)).2).1, rdDone (rdNat (rdNat (c.value, false)).2).2) := by unfold numsJ; rw [if_neg h]
    rw [e] at hk
    have hlen : (rdNat (c.value, false)).2.1.length ≤ c.value.length := stepN_len 59 0 (c.value, false)
    refine Open_use c.value cx fun b w cx => ⟨_, rfl, rd b (c.value, false) :: clO cb q c :: S, Φ, inferInstance, cx, fun w G cx => RNum_to (S := clO cb q c :: S) hN (by show c.value.length ≤ _; omega) cx (fun w G cx => RNum_to (S := clO cb q c :: S) hN (by omega) cx (fun w G cx => Done_to (S := clO cb q c :: S) cx (fun w G cx => hk w (Ctx.left (Ctx.drop1 cx)))))⟩

theorem read_end [Stable Φ] (hT : ∀ M w, Φ M w → TabI M w) {s : Bs} (hs : s.length ≤ 16777216) {n : Int} {b : Nat} {st : RdS} (hform : st.2 = false → formL l ++ st.1 = s) (cx : Ctx W w ((.buf p l.length cap (strC l) 9 1 :: rd b st :: S) ++ G) Φ) {K : Ending → World → Prop}
    (h0 : ∀ w', endJ s n (l, st) = none → Ctx W w' S Φ → K (.returned (.tuple #[.slice p l.length cap, .bool false])) w')
    (h1 : ∀ w', endJ s n (l, st) = some l → Ctx W w' (.buf p l.length cap (strC l) 9 1 :: S) Φ → K (.returned (.tuple #[.slice p l.length cap, .bool true])) w') :
    Calls Tryd.prog F.wire_Reader_Done #[.pointer (some ⟨b, 0, none⟩)] w fun e w' => ∃ c, e = .returned (.bool c) ∧ ∃ R' Φ', Stable Φ' ∧ Ctx W w' (R' ++ G) Φ' ∧
      Br c (Br (decide ((l.length : Int) = n)) (∀ w G, Ctx W w (R' ++ G) Φ' → Calls Tryd.prog F.journal_form #[.slice p l.length cap] w fun e w' => ∃ s1, e = .returned (.string s1) ∧ ∃ R2 Φ2, Stable Φ2 ∧ Ctx W w' (R2 ++ G) Φ2 ∧ ∀ w G, Ctx W w (R2 ++ G) Φ2 → K (.returned (.tuple #[.slice p l.length cap, .bool (decide (s1 = bs s))])) w)
        (∀ w G, Ctx W w (R' ++ G) Φ' → K (.returned (.tuple #[.slice p l.length cap, .bool false])) w)) (∀ w G, Ctx W w (R' ++ G) Φ' → K (.returned (.tuple #[.slice p l.length cap, .bool false])) w) := by
  refine Done_to (S := .buf p l.length cap (strC l) 9 1 :: S) cx.swap (Br.intro (fun hd => Br.intro (fun hn => fun w G cx => ?_) (fun hn => fun w G cx => ?_)) (fun hd => fun w G cx => ?_))
  · have hst := done_is hd
    subst hst
    have hf := hform rfl
    rw [List.append_nil] at hf
    have he : endJ s n (l, ([], false)) = some l := by unfold endJ; exact if_pos ⟨hd, of_decide_eq_true hn, hf⟩
    have hlen : (formL l).length ≤ 16777216 := by rw [hf]; exact hs
    have hsz : ∀ x ∈ l, x.size ≤ maxLen := fun x hx => Nat.le_trans (formL_size hx) (by unfold maxLen; omega)
    have c2 : Ctx W w ([Own.buf p l.length cap (strC l) 9 1] ++ (rd b ([], false) :: (S ++ G))) Φ := Ctx.swap (S := S ++ G) cx
    have c3 := c2.aside
    refine (form_in (Φ := Go.Vc.Aside W [.buf p l.length cap (strC l) 9 1] Φ) (fun M w h => hT M w h.less) (fun M w h => (SB.buf p cap l).sl hsz h) (by omega)).use c3 fun w c4 => ⟨_, rfl, .buf p l.length cap (strC l) 9 1 :: rd b ([], false) :: S, Φ, inferInstance, c4.unaside, fun w G cx => ?_⟩
    rw [hf, decide_eq_true (rfl : bs s = bs s)]
    exact h1 w he (Ctx.drop1 (Ctx.swap (Ctx.left (S := .buf p l.length cap (strC l) 9 1 :: rd b ([], false) :: S) cx)))
  · have he : endJ s n (l, st) = none := by unfold endJ; exact if_neg fun h => of_decide_eq_false hn h.2.1
    exact h0 w he (Ctx.drop1 (Ctx.drop1 (Ctx.left cx)))
  · have he : endJ s n (l, st) = none := by unfold endJ; exact if_neg fun h => by rw [h.1] at hd; cases hd
    exact h0 w he (Ctx.drop1 (Ctx.drop1 (Ctx.left cx)))

theorem Read_use [Stable Φ] (hN : ∀ M w, Φ M w → NumI M w) {s : Bs} (hs : s.length ≤ 16777216) {n : Int} (cx : Ctx W w S Φ) {K : Ending → World → Prop}
    (h0 : ∀ p k c w', readJ s n = none → Ctx W w' S Φ → K (.returned (.tuple #[.slice p k c, .bool false])) w')
    (h1 : ∀ p cap l o w', readJ s n = some l → SB p cap l o → Ctx W w' (o :: S) Φ → K (.returned (.tuple #[.slice p l.length cap, .bool true])) w') :
    Calls Tryd.prog F.journal_read #[.string (bs s), .int .i64 n] w K := by
  have hT : ∀ M w, Φ M w → TabI M w := fun M w h => (hN M w h).1
  refine (Bjournal_read_run (bs s) n (J := fun u w' => K (.returned u) w') cx fun w G cx => Open_use s cx fun b w cx => ⟨_, rfl, rd b (s, false) :: S, Φ, inferInstance, cx, ?_⟩).mono fun e w' ⟨v, he, hj⟩ => by rw [he]; exact hj
  refine exI_mk (fun p k c R' Φ' m => ∃ (st : RdS) (acc : List ByteArray), k = acc.length ∧ R' = .buf p acc.length c (strC acc) 9 1 :: rd b st :: S ∧ Φ' = Φ ∧ st.1.length < m ∧ acc.length + st.1.length ≤ s.length ∧ (st.2 = false → formL acc ++ st.1 = s) ∧ readJ s n = endJ s n (loopJ m st n acc))
    ⟨⟨.buf none 0 0 (strC []) 9 1 :: rd b (s, false) :: S, Φ, s.length + 1, inferInstance, fun w G cx => cx.nobuf 9 1, (s, false), [], rfl, rfl, rfl, Nat.lt_succ_self _, by simp, fun _ => rfl, rfl⟩, ?_⟩
  rintro p k c R1 Φ m st ⟨rs, acc, rfl, rfl, rfl, hm, hal, hform, hread⟩
  obtain ⟨m, rfl⟩ : ∃ x, m = x + 1 := ⟨m - 1, by omega⟩
  have hfin : ∀ st', (st'.2 = false → formL acc ++ st'.1 = s) → loopJ (m + 1) rs n acc = (acc, st') → ∀ {w : World} {G : List Own}, Ctx W w ((.buf p acc.length c (strC acc) 9 1 :: rd b st' :: S) ++ G) Φ → _ := fun st' hf hlp {w G} cx =>
    read_end (S := S) (G := G) (K := K) (n := n) hT hs hf cx (fun w he cx => h0 p acc.length c w (by rw [hread, hlp]; exact he) cx) (fun w he cx => h1 p c acc _ w (by rw [hread, hlp]; exact he) (SB.buf p c acc) cx)
  refine Br.intro (fun hlt => fun w G cx => ?_) (fun hge => fun w G cx => ?_)
  · have hlt := of_decide_eq_true hlt
    have e : loopJ (m + 1) rs n acc = if rs.1.length ≤ (stepT rs).2.1.length ∨ rs.1 = [] then (acc, (stepT rs).2) else loopJ m (stepT rs).2 n (acc ++ [(stepT rs).1]) := by
      conv => lhs; unfold loopJ
      rw [if_pos hlt]
    have hf2 : (stepT rs).2.2 = false → formL acc ++ ((textB (stepT rs).1).data.toList ++ (stepT rs).2.1) = s := fun hb => by
      obtain ⟨h1, h2⟩ := text_is hb
      rw [← h2]; exact hform h1
    refine Left_to (S := .buf p acc.length c (strC acc) 9 1 :: S) cx.swap (fun w G cx => Text_to (S := .buf p acc.length c (strC acc) 9 1 :: S) hN (by omega) cx (fun w G cx => Left_to (S := .buf p acc.length c (strC acc) 9 1 :: S) cx (Br.intro (fun h2 => fun w G cx => ?_) (fun h2 => Br.intro (fun h3 => fun w G cx => ?_) (fun h3 => fun k w G cx => ?_)))))
    · rw [if_pos (.inl (by have := of_decide_eq_true h2; omega))] at e
      exact hfin (stepT rs).2 (fun hb => by obtain ⟨h1, h2⟩ := text_is hb; exact absurd h1 (by
        intro h3
        have := hf2 hb
        have e2 := congrArg List.length h2
        rw [List.length_append, textB_list, List.length_append, List.length_cons, List.length_append, List.length_singleton] at e2
        have := of_decide_eq_true ‹_›
        omega)) e cx.swap
    · rw [if_pos (.inr (List.eq_nil_of_length_eq_zero (by have := of_decide_eq_true h3; omega)))] at e
      have h0 : rs.1 = [] := List.eq_nil_of_length_eq_zero (by have := of_decide_eq_true h3; omega)
      exact hfin (stepT rs).2 (fun hb => by rw [stepT_nil h0] at hb; cases hb) e cx.swap
    · have h2 := of_decide_eq_false h2
      have h3 := of_decide_eq_false h3
      have hc : ¬ (rs.1.length ≤ (stepT rs).2.1.length ∨ rs.1 = []) := fun h => h.elim (fun h => h2 (by omega)) (fun h => h3 (by rw [h]; rfl))
      rw [if_neg hc] at e
      have cx : Ctx W w (.blk k [.string (stepT rs).1] 9 :: .buf p acc.length c (strC acc) 9 1 :: rd b (stepT rs).2 :: (S ++ G)) Φ := cx.perm (List.Perm.cons _ (List.Perm.swap _ _ _))
      obtain ⟨p', cap', w', hr, _, c2⟩ := cx.app1 (ts := 36) (ty := 36) (kb := #[false, false]) (bytes := 16) (by kernel_rfl) (by decide) rfl rfl (by omega) (by decide)
      have es : strC acc ++ [.string (stepT rs).1] = strC (acc ++ [(stepT rs).1]) := by
        show _ = List.map Value.string (acc ++ [(stepT rs).1])
        rw [List.map_append]; rfl
      have el : acc.length + 1 = (acc ++ [(stepT rs).1]).length := by rw [List.length_append]; rfl
      rw [es, el] at c2
      rw [el] at hr
      refine ⟨p', _, cap', w', hr, .buf p' (acc ++ [(stepT rs).1]).length cap' (strC (acc ++ [(stepT rs).1])) 9 1 :: rd b (stepT rs).2 :: S, Φ, inferInstance, c2, _, Φ, m, inferInstance, fun w G cx => cx, ⟨_, acc ++ [(stepT rs).1], rfl, rfl, rfl, by omega, by rw [← el]; omega, fun hb => ?_, by rw [hread, e]⟩, Nat.lt_succ_self _⟩
      have := hf2 hb
      rw [formL_app, List.append_assoc, show formL [(stepT rs).1] = (textB (stepT rs).1).data.toList by simp [formL]]
      exact this
  · have e : loopJ (m + 1) rs n acc = (acc, rs) := by unfold loopJ; rw [if_neg (of_decide_eq_false hge)]
    exact hfin rs hform e cx
end
end Go.Proofs.YtfccagphnfceiaaDoor
end

/-
  A journal in memory: note, Append: walked.
-/
section
set_option linter.unusedVariables false
set_option linter.unusedSimpArgs false
namespace Go.Proofs.YtfccagphnfceiaaDoor
open Go.Vc

structure JoP where
  jb : Nat
  cb : Nat
  p : Option Addr
  cap : Nat
  o : Own
abbrev joB (x : JoP) (q : DkP) (j : JouS) : List Value := [.pointer (some ⟨q.db, 0, none⟩), .int .i64 j.base, .pointer (some ⟨x.cb, 0, none⟩), .slice x.p j.list.length x.cap, .int .i64 (j.bytes : Int), .bool j.broken]
/-- what a journal owns -/
abbrev JoO (x : JoP) (q : DkP) (j : JouS) : List Own := [x.o, .blk x.jb (joB x q j) 71, clO x.cb q j.cell]
def JoP.mv (x : JoP) (p : Option Addr) (cap : Nat) (o : Own) : JoP := ⟨x.jb, x.cb, p, cap, o⟩

section
variable {W w : World} {S G : List Own} {Φ : PW}
theorem jd_in [Stable Φ] {A X S G : List Own} (cx : Ctx W w ((A ++ (X ++ S)) ++ G) Φ) : Ctx W w (X ++ (A ++ (S ++ G))) Φ := by
  rw [List.append_assoc, List.append_assoc] at cx
  exact cx.perm (perm3 _ _ _ _)
theorem jd_out [Stable Φ] {A X S G : List Own} (cx : Ctx W w (X ++ (A ++ (S ++ G))) Φ) : Ctx W w ((A ++ (X ++ S)) ++ G) Φ := by
  rw [List.append_assoc, List.append_assoc]
  exact cx.perm (perm3 _ _ _ _)
theorem jc_in [Stable Φ] {a b c : Own} {X S G : List Own} (cx : Ctx W w (([a, b, c] ++ (X ++ S)) ++ G) Φ) : Ctx W w (c :: (X ++ (a :: b :: (S ++ G)))) Φ :=
  jd_in (A := [a, b]) (X := c :: X) cx
theorem jc_out [Stable Φ] {a b c : Own} {X S G : List Own} (cx : Ctx W w (c :: (X ++ (a :: b :: (S ++ G)))) Φ) : Ctx W w (([a, b, c] ++ (X ++ S)) ++ G) Φ :=
  jd_out (A := [a, b]) (X := c :: X) cx

theorem Note_use [Stable Φ] {q : DkP} {d : DsS} (hq : DkQ q d) (hkp : DkK Φ q d) (hoff : ∀ M w, Φ M w → OffI M w) (hT : ∀ M w, Φ M w → TabI M w) {x : JoP} {j : JouS} {b n : Nat} (hb : b ≤ 1099511627776) (hn : n ≤ 1099511627776) (cx : Ctx W w (JoO x q j ++ (dkL q d ++ S)) Φ) {K : Ending → World → Prop}
    (hk : ∀ u w', DkQ (q.mv u) (noteS d j b n).1 → Ctx W w' (JoO x q (noteS d j b n).2.1 ++ (dkL (q.mv u) (noteS d j b n).1 ++ S)) Φ → K (.returned (.int .i64 (noteS d j b n).2.2)) w') :
    Calls Tryd.prog F.journal_Journal_note #[.pointer (some ⟨x.jb, 0, none⟩), .int .i64 (b : Int), .int .i64 (n : Int)] w K := by
  have h1 := intB_size (n := (b : Int)) (by unfold I64; omega)
  have h2 := intB_size (n := (n : Int)) (by unfold I64; omega)
  refine (Bjournal_Journal_note_run x.jb 0 (b : Int) (n : Int) (J := fun u w' => K (.returned u) w') cx ⟨_, Φ, inferInstance, fun w G cx => cx, some ⟨x.cb, 0, none⟩, fun w G cx => ⟨_, cx.get 1 rfl rfl, rfl⟩, fun w G cx => (Int_in (Φ := Φ) (.inl ⟨hT, by unfold I64; omega⟩)).use cx fun w cx => ⟨_, rfl, _, Φ, inferInstance, cx, fun w G cx => cx, fun w G cx => (Int_in (Φ := Φ) (.inl ⟨hT, by unfold I64; omega⟩)).use cx fun w cx => ⟨_, rfl, _, Φ, inferInstance, cx, fun w G cx => cx, by show (intB (b : Int)).size + (intB (n : Int)).size ≤ _; omega, fun w G cx => ?_⟩⟩⟩).mono fun e w' ⟨v, he, hj⟩ => by rw [he]; exact hj
  have e : intB (b : Int) ++ intB (n : Int) = bs (encB b n) := by
    apply ByteArray.ext
    apply Array.toList_inj.1
    simp [encB, bs]
  rw [e]
  unfold noteS at hk
  refine CSet_use (S := x.o :: .blk x.jb (joB x q j) 71 :: (S ++ G)) hq hkp hoff (jc_in cx) fun u w hq1 cx => ?_
  generalize setC d j.cell (encB b n) = r at hk hq1 cx
  obtain ⟨d1, c1, e1⟩ := r
  simp only at hk hq1 cx
  refine ⟨e1, rfl, [x.o, .blk x.jb (joB x q j) 71, clO x.cb q c1] ++ (dkL (q.mv u) d1 ++ S), Φ, inferInstance, jc_out cx, fun w G cx => ⟨cx.can 1 rfl (by show 5 + 1 ≤ 6; omega), fun w' hw' => ?_⟩⟩
  exact ⟨_, Φ, inferInstance, cx.put 1 hw' rfl, fun w G cx => hk u w hq1 (Ctx.left cx)⟩
end
end Go.Proofs.YtfccagphnfceiaaDoor
end

/-
  A journal in memory: Append: walked.
-/
section
set_option linter.unusedVariables false
set_option linter.unusedSimpArgs false
namespace Go.Proofs.YtfccagphnfceiaaDoor
open Go.Vc

theorem log_keep (d : DsS) (j : JouS) (l : List ByteArray) : (logS d j l).1.keep = d.keep := by
  unfold logS; split
  · rw [sync_keep, write_keep]
  · exact write_keep _ _ _ _
theorem setC2_keep (d : DsS) (c : CelS) (s : Bs) (n : Nat) : (setC2 d c s n).1.keep = d.keep := by
  unfold setC2
  repeat' split
  all_goals simp only [sync_keep, write_keep]
theorem setC_keep (d : DsS) (c : CelS) (s : Bs) : (setC d c s).1.keep = d.keep := by
  unfold setC
  repeat' split
  all_goals simp only [sync_keep, setC2_keep]
theorem note_keep (d : DsS) (j : JouS) (b n : Nat) : (noteS d j b n).1.keep = d.keep := setC_keep _ _ _

section
variable {W w : World} {S G : List Own} {Φ : PW}
theorem Append_use [Stable Φ] {q : DkP} {d : DsS} (hq : DkQ q d) (hkp : DkK Φ q d) (hoff : ∀ M w, Φ M w → OffI M w) (hT : ∀ M w, Φ M w → TabI M w) {x : JoP} {j : JouS} (hsb : SB x.p x.cap j.list x.o) {lp : Option Addr} {lc : Nat} {l : List ByteArray}
    (hsl : ∀ M w, Φ M w → Sl M w lp l) (hf : (formL l).length ≤ 1000000000) (hb : j.bytes ≤ 1000000000) (hn : j.list.length + l.length < 100000000) (cx : Ctx W w (JoO x q j ++ (dkL q d ++ S)) Φ) {K : Ending → World → Prop}
    (hk : ∀ u p c o w', SB p c (appendS d j l).2.1.list o → DkQ (q.mv u) (appendS d j l).1 → Ctx W w' (JoO (x.mv p c o) q (appendS d j l).2.1 ++ (dkL (q.mv u) (appendS d j l).1 ++ S)) Φ → K (.returned (.int .i64 (appendS d j l).2.2)) w') :
    Calls Tryd.prog F.journal_Journal_Append #[.pointer (some ⟨x.jb, 0, none⟩), .slice lp l.length lc] w K := by
  have hsame : ∀ {e : Int} {w' : World} {G : List Own}, appendS d j l = (d, j, e) → Ctx W w' ((JoO x q j ++ (dkL q d ++ S)) ++ G) Φ → K (.returned (.int .i64 e)) w' := by
    intro e w' G he cx
    rw [he] at hk
    exact hk q.un x.p x.cap x.o w' hsb hq (Ctx.left cx)
  refine (Bjournal_Journal_Append_run x.jb 0 lp l.length lc (J := fun u w' => K (.returned u) w') cx fun w G cx => (form_in (Φ := Φ) hT hsl hf).use cx fun w cx => ⟨_, rfl, _, Φ, inferInstance, cx, fun w G cx => ⟨_, cx.get 1 rfl rfl, Br.intro (fun h => fun w G cx => ?_) (fun h => Br.intro (fun h2 => fun w G cx => ?_) (fun h2 => fun w G cx => ⟨(j.bytes : Int), cx.get 1 rfl rfl, ?_, Br.intro (fun h3 => fun w G cx => ?_) (fun h3 => ?_)⟩))⟩⟩).mono fun e w' ⟨v, he, hj⟩ => by rw [he]; exact hj
  · exact hsame (by unfold appendS; rw [if_pos h]) cx
  · exact hsame (by unfold appendS; rw [if_neg (by rw [h]; simp), if_pos (List.eq_nil_of_length_eq_zero (by have := of_decide_eq_true h2; omega))]) cx
  · rw [bs_size]; unfold I64; omega
  all_goals rw [bs_size] at *
  all_goals have h : ¬ j.broken = true := by rw [h]; simp
  all_goals have h2 : ¬ l = [] := fun e => of_decide_eq_false h2 (by rw [e]; rfl)
  · exact hsame (by unfold appendS; rw [if_neg h, if_neg h2, if_pos (by have := of_decide_eq_true h3; omega)]) cx
  have h3 : ¬ 1048576 < j.bytes + (formL l).length := by have := of_decide_eq_false h3; omega
  have happ : appendS d j l = if (logS d j l).2 ≠ 0 then ((logS d j l).1, { j with broken := true }, (logS d j l).2) else gotS j (j.list ++ l) (j.bytes + (formL l).length) (noteS (logS d j l).1 j (j.bytes + (formL l).length) (j.list.length + l.length)) := by
    unfold appendS; rw [if_neg h, if_neg h2, if_neg h3]
  rw [happ] at hk
  have hlk := log_keep d j l
  have hlog : logS d j l = if (writeS d j.base j.bytes (formL l)).2 = 0 then syncS (writeS d j.base j.bytes (formL l)).1 j.base else writeS d j.base j.bytes (formL l) := rfl
  clear happ hsame
  refine ⟨_, Φ, inferInstance, fun w G cx => cx, some ⟨q.db, 0, none⟩, fun w G cx => ⟨_, cx.get 1 rfl rfl, rfl⟩, j.base, fun w G cx => ⟨_, cx.get 1 rfl rfl, rfl⟩, (j.bytes : Int), fun w G cx => ⟨_, cx.get 1 rfl rfl, rfl⟩, fun w G cx => ?_⟩
  have hwk := write_keep d j.base j.bytes (formL l)
  refine Write_use (S := JoO x q j ++ (S ++ G)) hq hkp (by omega) (jd_in cx) fun u w hq1 cx => ?_
  generalize writeS d j.base j.bytes (formL l) = r at hlog hq1 cx hwk
  obtain ⟨d1, e1⟩ := r
  simp only at hlog hq1 cx hwk
  refine ⟨e1, rfl, JoO x q j ++ (dkL (q.mv u) d1 ++ S), Φ, inferInstance, jd_out cx, ?_⟩
  refine exI_mk (fun n R' Φ' => ∃ u, n = (logS d j l).2 ∧ R' = JoO x q j ++ (dkL (q.mv u) (logS d j l).1 ++ S) ∧ Φ' = Φ ∧ DkQ (q.mv u) (logS d j l).1) ⟨Br.intro (fun h4 => ?_) (fun h4 => ?_), ?_⟩
  · rw [if_pos (of_decide_eq_true h4)] at hlog
    refine ⟨_, Φ, inferInstance, fun w G cx => cx, some ⟨q.db, 0, none⟩, fun w G cx => ⟨_, cx.get 1 rfl rfl, rfl⟩, j.base, fun w G cx => ⟨_, cx.get 1 rfl rfl, rfl⟩, fun w G cx => ?_⟩
    refine Sync_use (q := q.mv u) (S := JoO x q j ++ (S ++ G)) hq1 (hkp.of hwk u) (jd_in cx) fun u w hq2 cx => ⟨_, rfl, JoO x q j ++ (dkL (q.mv u) (syncS d1 j.base).1 ++ S), Φ, inferInstance, jd_out cx, _, Φ, inferInstance, fun w G cx => cx, u, by rw [hlog], by rw [hlog], rfl, by rw [hlog]; exact hq2⟩
  · rw [if_neg (of_decide_eq_false h4)] at hlog
    exact ⟨_, Φ, inferInstance, fun w G cx => cx, u, by rw [hlog], by rw [hlog], rfl, by rw [hlog]; exact hq1⟩
  clear hlog hq1 cx hwk
  rintro n R1 Φ st ⟨u, rfl, rfl, rfl, hq1⟩
  generalize logS d j l = r at hk hq1 hlk
  obtain ⟨d1, e1⟩ := r
  simp only at hk hq1 hlk ⊢
  refine Br.intro (fun h4 => fun w G cx => ⟨cx.can 1 rfl (by show 5 + 1 ≤ 6; omega), fun w' hw' => ?_⟩) (fun h4 => ?_)
  · rw [if_pos (of_decide_eq_true h4)] at hk
    exact ⟨JoO x q { j with broken := true } ++ (dkL (q.mv u) d1 ++ S), Φ, inferInstance, cx.put 1 hw' rfl, fun w G cx => hk u x.p x.cap x.o w hsb hq1 (Ctx.left cx)⟩
  rw [if_neg (of_decide_eq_false h4)] at hk
  refine ⟨_, Φ, inferInstance, fun w G cx => cx, (j.bytes : Int), fun w G cx => ⟨_, cx.get 1 rfl rfl, rfl⟩, x.p, j.list.length, x.cap, fun w G cx => ⟨_, _, _, cx.get 1 rfl rfl, rfl⟩, by unfold I64; omega, by unfold I64; omega, fun w G cx => ?_⟩
  rw [← Int.natCast_add, ← Int.natCast_add]
  have hnk := note_keep d1 j (j.bytes + (formL l).length) (j.list.length + l.length)
  refine Note_use (S := S ++ G) (q := q.mv u) hq1 (hkp.of hlk u) hoff hT (by omega) (by omega) (by rw [← List.append_assoc (dkL _ _), ← List.append_assoc]; exact cx) fun u w hq2 cx => ?_
  have hnl : (noteS d1 j (j.bytes + (formL l).length) (j.list.length + l.length)).2.1.list = j.list := rfl
  have hnb : (noteS d1 j (j.bytes + (formL l).length) (j.list.length + l.length)).2.1.bytes = j.bytes := rfl
  generalize noteS d1 j (j.bytes + (formL l).length) (j.list.length + l.length) = r at hk hq2 cx hnk hnl hnb
  obtain ⟨d2, j2, e2⟩ := r
  simp only at hk hq2 cx hnk hnl hnb
  refine ⟨e2, rfl, JoO x q j2 ++ (dkL (q.mv u) d2 ++ S), Φ, inferInstance, by rw [← List.append_assoc (dkL _ _), ← List.append_assoc] at cx; exact cx, Br.intro (fun h5 => fun w G cx => ?_) (fun h5 => ?_)⟩
  · have e : gotS j (j.list ++ l) (j.bytes + (formL l).length) (d2, j2, e2) = (d2, j2, e2) := by unfold gotS; rw [if_pos (of_decide_eq_true h5)]
    rw [e] at hk
    exact hk u x.p x.cap x.o w (by rw [hnl]; exact hsb) hq2 (Ctx.left cx)
  have e : gotS j (j.list ++ l) (j.bytes + (formL l).length) (d2, j2, e2) = (d2, { j2 with list := j.list ++ l, bytes := j.bytes + (formL l).length }, 0) := by unfold gotS; rw [if_neg (of_decide_eq_false h5)]
  rw [e] at hk
  have hsub : ∀ {o1 o2 o3 : Own} {X : List Own}, [o2].Sublist ([o1, o2, o3] ++ X) := fun {o1 o2 o3 X} => .cons _ (.cons_cons _ (List.nil_sublist _))
  refine ⟨[], tru, inferInstance, fun w G cx => cut_to cx (List.nil_sublist _), [.blk x.jb (joB x q j2) 71], tru, inferInstance, fun w G cx => cut_to cx hsub, fun w G cx => ⟨_, _, _, cx.get 1 rfl rfl, (j.bytes : Int), fun w G cx => ⟨(j2.bytes : Int), cx.get 0 rfl rfl, by rw [hnb]⟩, by unfold I64; omega, fun w G cx => ?_⟩⟩
  rw [hnl]
  obtain ⟨p', cap', w', o', hr, hsb', c2⟩ := hsb.app (c2 := lc) (S := .blk x.jb (joB x q j2) 71 :: clO x.cb q j2.cell :: ((dkL (q.mv u) d2 ++ S) ++ G)) cx hsl (List.length_pos_iff.2 h2) hn
  refine ⟨p', _, cap', w', hr, [o', .blk x.jb (joB x q j2) 71, clO x.cb q j2.cell] ++ (dkL (q.mv u) d2 ++ S), Φ, inferInstance, c2, fun w G cx => cut_to cx (List.nil_sublist _), fun w G cx => cut_to cx hsub, fun w G cx => ⟨cx.can 1 rfl (by show 3 + 1 ≤ 6; omega), fun w' hw' => ?_⟩⟩
  refine ⟨[o', .blk x.jb ((joB x q j2).set 3 (.slice p' (j.list.length + l.length) cap')) 71, clO x.cb q j2.cell] ++ (dkL (q.mv u) d2 ++ S), Φ, inferInstance, cx.put 1 hw' rfl, fun w G cx => cut_to cx (List.nil_sublist _), trivial, fun w G cx => ⟨cx.can 1 rfl (by show 4 + 1 ≤ 6; omega), fun w' hw' => ?_⟩⟩
  rw [← Int.natCast_add] at hw'
  refine ⟨[o', .blk x.jb (((joB x q j2).set 3 (.slice p' (j.list.length + l.length) cap')).set 4 (.int .i64 ((j.bytes + (formL l).length : Nat) : Int))) 71, clO x.cb q j2.cell] ++ (dkL (q.mv u) d2 ++ S), Φ, inferInstance, cx.put 1 hw' rfl, fun w G cx => cut_to cx (List.nil_sublist _), trivial, fun w G cx => ?_⟩
  refine hk u p' cap' o' w hsb' hq2 ?_
  have e3 : joB (x.mv p' cap' o') q { j2 with list := j.list ++ l, bytes := j.bytes + (formL l).length } = ((joB x q j2).set 3 (.slice p' (j.list.length + l.length) cap')).set 4 (.int .i64 ((j.bytes + (formL l).length : Nat) : Int)) := by
    show [_, _, _, Value.slice p' (j.list ++ l).length cap', _, _] = _
    rw [List.length_append]; rfl
  show Ctx W w (o' :: .blk x.jb (joB (x.mv p' cap' o') q { j2 with list := j.list ++ l, bytes := j.bytes + (formL l).length }) 71 :: _) Φ
  rw [e3]
  exact Ctx.left cx
end
end Go.Proofs.YtfccagphnfceiaaDoor
end

/-
  A journal in memory: Cut, Len, Get, All: walked.
-/
section
set_option linter.unusedVariables false
set_option linter.unusedSimpArgs false
namespace Go.Proofs.YtfccagphnfceiaaDoor
open Go.Vc

section
variable {W w : World} {S G : List Own} {Φ : PW}
theorem Cut_use [Stable Φ] {q : DkP} {d : DsS} (hq : DkQ q d) (hkp : DkK Φ q d) (hoff : ∀ M w, Φ M w → OffI M w) (hT : ∀ M w, Φ M w → TabI M w) {x : JoP} {j : JouS} (hsb : SB x.p x.cap j.list x.o) {n : Int}
    (hf : (formL j.list).length ≤ 1000000000) (cx : Ctx W w (JoO x q j ++ (dkL q d ++ S)) Φ) {K : Ending → World → Prop}
    (hk : ∀ u p c o w', SB p c (cutS d j n).2.1.list o → DkQ (q.mv u) (cutS d j n).1 → Ctx W w' (JoO (x.mv p c o) q (cutS d j n).2.1 ++ (dkL (q.mv u) (cutS d j n).1 ++ S)) Φ → K (.returned (.int .i64 (cutS d j n).2.2)) w') :
    Calls Tryd.prog F.journal_Journal_Cut #[.pointer (some ⟨x.jb, 0, none⟩), .int .i64 n] w K := by
  have hsame : ∀ {e : Int} {w' : World} {G : List Own}, cutS d j n = (d, j, e) → Ctx W w' ((JoO x q j ++ (dkL q d ++ S)) ++ G) Φ → K (.returned (.int .i64 e)) w' := by
    intro e w' G he cx
    rw [he] at hk
    exact hk q.un x.p x.cap x.o w' hsb hq (Ctx.left cx)
  have hl := formL_len (l := j.list) fun x hx => Nat.le_trans (formL_size hx) (by omega)
  refine (Bjournal_Journal_Cut_run x.jb 0 n (J := fun u w' => K (.returned u) w') cx fun w G cx => ⟨_, cx.get 1 rfl rfl, Br.intro (fun h => fun w G cx => ?_) (fun h => fun w G cx => ⟨_, _, _, fun _ => cx.get 1 rfl rfl, Br.intro (fun h2 => fun w G cx => ?_) (fun h2 => fun w G cx => ⟨_, _, _, cx.get 1 rfl rfl, Br.intro (fun h3 => fun w G cx => ?_) (fun h3 => fun w G cx => ⟨_, _, _, cx.get 1 rfl rfl, ?_⟩)⟩)⟩)⟩).mono fun e w' ⟨v, he, hj⟩ => by rw [he]; exact hj
  · exact hsame (by unfold cutS; rw [if_pos h]) cx
  all_goals have h : ¬ j.broken = true := by rw [h]; simp
  · have h2 : n < 0 ∨ (j.list.length : Int) < n := by simpa using h2
    exact hsame (by unfold cutS; rw [if_neg h, if_pos h2]) cx
  all_goals have h2 : ¬ (n < 0 ∨ (j.list.length : Int) < n) := by simpa using h2
  · exact hsame (by unfold cutS; rw [if_neg h, if_neg h2, if_pos (of_decide_eq_true h3)]) cx
  have h3 := of_decide_eq_false h3
  obtain ⟨k, rfl⟩ : ∃ k : Nat, n = k := ⟨n.toNat, by omega⟩
  have hk2 : k < j.list.length := by omega
  have hcut : cutS d j (k : Int) = gotS j (j.list.take k) (formL (j.list.take k)).length (noteS d j (formL (j.list.take k)).length k) := by
    unfold cutS; rw [if_neg h, if_neg h2, if_neg h3, Int.toNat_natCast]
  rw [hcut] at hk
  clear hcut hsame
  obtain ⟨g, o2, hp, hcap, _, _⟩ := hsb.cutAt (k := k) (S := .blk x.jb (joB x q j) 71 :: clO x.cb q j.cell :: ((dkL q d ++ S) ++ G)) cx hk2
  have hle : (formL (j.list.take k)).length ≤ (formL j.list).length := by
    have e : formL j.list = formL (j.list.take k) ++ formL (j.list.drop k) := by rw [← formL_app, List.take_append_drop]
    rw [e, List.length_append]; omega
  have hsz : ∀ y ∈ j.list, y.size ≤ maxLen := fun y hy => Nat.le_trans (formL_size hy) (by unfold maxLen; omega)
  have hkl : (j.list.take k).length = k := by rw [List.length_take]; omega
  refine ⟨⟨by omega, by omega⟩, fun w G cx => ?_⟩
  have c2 : Ctx W w ([x.o] ++ (.blk x.jb (joB x q j) 71 :: clO x.cb q j.cell :: ((dkL q d ++ S) ++ G))) Φ := cx
  have hform := form_in (Φ := Go.Vc.Aside W [x.o] Φ) (p := x.p) (cap := x.cap) (l := j.list.take k) (fun M w h => hT M w h.less) (fun M w h => sl_take (hsb.sl hsz h) k) (by omega)
  rw [hkl] at hform
  rw [show subPtr x.p 1 0 x.cap = x.p by rw [hp]; exact subPtr_zero _ _ _, Int.toNat_natCast]
  refine hform.use c2.aside fun w c3 => ⟨_, rfl, JoO x q j ++ (dkL q d ++ S), Φ, inferInstance, c3.unaside, fun w G cx => ?_⟩
  have hnk := note_keep d j (formL (j.list.take k)).length k
  rw [bs_size]
  refine Note_use (S := S ++ G) hq hkp hoff hT (by omega) (by omega) (by rw [← List.append_assoc (dkL _ _), ← List.append_assoc]; exact cx) fun u w hq2 cx => ?_
  have hnl : (noteS d j (formL (j.list.take k)).length k).2.1.list = j.list := rfl
  generalize noteS d j (formL (j.list.take k)).length k = r at hk hq2 cx hnk hnl
  obtain ⟨d2, j2, e2⟩ := r
  simp only at hk hq2 cx hnk hnl
  refine ⟨e2, rfl, JoO x q j2 ++ (dkL (q.mv u) d2 ++ S), Φ, inferInstance, by rw [← List.append_assoc (dkL _ _), ← List.append_assoc] at cx; exact cx, Br.intro (fun h5 => fun w G cx => ?_) (fun h5 => fun w G cx => ⟨x.p, j2.list.length, x.cap, cx.get 1 rfl rfl, ⟨by omega, by omega, by omega⟩, fun w G cx => ⟨cx.can 1 rfl (by show 3 + 1 ≤ 6; omega), fun w' hw' => ?_⟩⟩)⟩
  · have e : gotS j (j.list.take k) (formL (j.list.take k)).length (d2, j2, e2) = (d2, j2, e2) := by unfold gotS; rw [if_pos (of_decide_eq_true h5)]
    rw [e] at hk
    exact hk u x.p x.cap x.o w (by rw [hnl]; exact hsb) hq2 (Ctx.left cx)
  have e : gotS j (j.list.take k) (formL (j.list.take k)).length (d2, j2, e2) = (d2, { j2 with list := j.list.take k, bytes := (formL (j.list.take k)).length }, 0) := by unfold gotS; rw [if_neg (of_decide_eq_false h5)]
  rw [e] at hk
  rw [show subPtr x.p 1 0 k = x.p by rw [hp]; exact subPtr_zero _ _ _] at hw'
  refine ⟨[x.o, .blk x.jb ((joB x q j2).set 3 (.slice x.p k k)) 71, clO x.cb q j2.cell] ++ (dkL (q.mv u) d2 ++ S), Φ, inferInstance, cx.put 1 hw' rfl, fun w G cx => ⟨cx.can 1 rfl (by show 4 + 1 ≤ 6; omega), fun w' hw' => ?_⟩⟩
  refine ⟨[x.o, .blk x.jb (((joB x q j2).set 3 (.slice x.p k k)).set 4 (.int .i64 ((formL (j.list.take k)).length : Int))) 71, clO x.cb q j2.cell] ++ (dkL (q.mv u) d2 ++ S), Φ, inferInstance, cx.put 1 hw' rfl, fun w G cx => ?_⟩
  have cx := Ctx.left cx
  obtain ⟨g3, o3, hp3, _, hsb3, c4⟩ := hsb.cutAt (k := k) (S := .blk x.jb (((joB x q j2).set 3 (.slice x.p k k)).set 4 (.int .i64 ((formL (j.list.take k)).length : Int))) 71 :: clO x.cb q j2.cell :: (dkL (q.mv u) d2 ++ S)) cx hk2
  refine hk u x.p k o3 w hsb3 hq2 ?_
  have e3 : joB (x.mv x.p k o3) q { j2 with list := j.list.take k, bytes := (formL (j.list.take k)).length } = ((joB x q j2).set 3 (.slice x.p k k)).set 4 (.int .i64 ((formL (j.list.take k)).length : Int)) := by
    show [_, _, _, Value.slice x.p (j.list.take k).length k, _, _] = _
    rw [hkl]; rfl
  show Ctx W w (o3 :: .blk x.jb (joB (x.mv x.p k o3) q { j2 with list := j.list.take k, bytes := (formL (j.list.take k)).length }) 71 :: _) Φ
  rw [e3]
  exact c4

theorem Len_use [Stable Φ] {q : DkP} {x : JoP} {j : JouS} (cx : Ctx W w (JoO x q j ++ S) Φ) {K : Ending → World → Prop} (hk : ∀ w', Ctx W w' (JoO x q j ++ S) Φ → K (.returned (.int .i64 (j.list.length : Int))) w') :
    Calls Tryd.prog F.journal_Journal_Len #[.pointer (some ⟨x.jb, 0, none⟩)] w K := by
  refine (Bjournal_Journal_Len_run x.jb 0 (J := fun u w' => K (.returned u) w') cx fun w G cx => ⟨_, _, _, cx.get 1 rfl rfl, fun w G cx => hk w (Ctx.left cx)⟩).mono fun e w' ⟨v, he, hj⟩ => by rw [he]; exact hj
def getJ (l : List ByteArray) (i : Int) : ByteArray := if i < 0 ∨ (l.length : Int) ≤ i then ByteArray.mk #[] else l.getD i.toNat (ByteArray.mk #[])
theorem JGet_use [Stable Φ] {q : DkP} {x : JoP} {j : JouS} (hsb : SB x.p x.cap j.list x.o) {i : Int} (cx : Ctx W w (JoO x q j ++ S) Φ) {K : Ending → World → Prop} (hk : ∀ w', Ctx W w' (JoO x q j ++ S) Φ → K (.returned (.string (getJ j.list i))) w') :
    Calls Tryd.prog F.journal_Journal_Get #[.pointer (some ⟨x.jb, 0, none⟩), .int .i64 i] w K := by
  unfold getJ at hk
  have hp : 0 < j.list.length → ∃ g, x.p = some ⟨g, 0, none⟩ := fun h => by
    obtain ⟨g, hg, _⟩ := hsb.get (S := .blk x.jb (joB x q j) 71 :: clO x.cb q j.cell :: S) cx h
    exact ⟨g, hg⟩
  refine (Bjournal_Journal_Get_run x.jb 0 i (J := fun u w' => K (.returned u) w') cx fun w G cx => ⟨_, _, _, fun _ => cx.get 1 rfl rfl, Br.intro (fun h => fun w G cx => ?_) (fun h => fun w G cx => ⟨_, _, _, cx.get 1 rfl rfl, ?_⟩)⟩).mono fun e w' ⟨v, he, hj⟩ => by rw [he]; exact hj
  · have h : i < 0 ∨ (j.list.length : Int) ≤ i := by simpa using h
    rw [if_pos h] at hk
    exact hk w (Ctx.left cx)
  · have h : ¬ (i < 0 ∨ (j.list.length : Int) ≤ i) := by simpa using h
    rw [if_neg h] at hk
    obtain ⟨g, hg⟩ := hp (by omega)
    refine ⟨⟨by omega, by omega⟩, ptrK_intro g 0 hg fun w G cx => ?_⟩
    have hi : i.toNat < j.list.length := by omega
    obtain ⟨g2, hg2, hc⟩ := hsb.get (S := .blk x.jb (joB x q j) 71 :: clO x.cb q j.cell :: (S ++ G)) cx hi
    rw [hg] at hg2
    cases hg2
    refine ⟨j.list[i.toNat], by rw [Nat.zero_add]; exact hc, fun w G cx => ?_⟩
    rw [List.getD_eq_getElem?_getD, List.getElem?_eq_getElem hi] at hk
    exact hk w (Ctx.left cx)
end
end Go.Proofs.YtfccagphnfceiaaDoor
end

/-
  A journal in memory: All, Open: walked.
-/
section
set_option linter.unusedVariables false
set_option linter.unusedSimpArgs false
namespace Go.Proofs.YtfccagphnfceiaaDoor
open Go.Vc

theorem run_copy0 {P : Program} (w : World) (dT sT ty elem : TypeId) {i : TypeInfo} (hu : P.underlying dT = some (.slice elem)) (hi : P.info? elem = some i) (b : Nat) (q : Option Addr) (c : Nat) :
    (Builtin.copy_ #[dT, sT] ty #[.slice (some ⟨b, 0, none⟩) 0 0, .slice q 0 c]).run P w = .ok (Go.goInt 0) w := by
  simp [Builtin.copy_, run_underlying hu, Builtin.lenOf, Builtin.firstCells, sizeOf, typeInfo, hi]
  cases q <;> simp [loadCells, loadCellsFrom, storeCells, Result.andThen]
section
variable {W w : World} {S G : List Own} {Φ : PW}
/-- copy strings into a block of as many cells -/
theorem copy_strs [Stable Φ] {p : Option Addr} {cap : Nat} {l : List ByteArray} {o : Own} {b : Nat} (hsb : SB p cap l o) (cx : Ctx W w (.blk b (List.replicate l.length (Value.string (ByteArray.mk #[]))) 9 :: o :: S) Φ) :
    ∃ w', Sem.run Tryd.prog (builtin Builtin.copy #[36, 36] 3 #[false, false] #[.slice (some ⟨b, 0, none⟩) l.length l.length, .slice p l.length cap]) w = .ok (.value (.int .i64 l.length)) w' ∧ Ctx W w' (.blk b (strC l) 9 :: o :: S) Φ := by
  obtain ⟨i, z, e1, e2, e3, e4, e5, e6⟩ := appB_out (P := Tryd.prog) (ts := 36) (t := 9) (size := 1) (bytes := 16) (by kernel_rfl)
  by_cases h : l = []
  · subst h
    exact ⟨w, run_cpy (run_copy0 w _ _ _ _ e1 e2 b p cap), cx⟩
  · have hpos := List.length_pos_iff.2 h
    have cx2 := cx.swap
    obtain ⟨g, hg, _⟩ := hsb.get cx2 hpos
    subst hg
    have hsrc : ∀ j v, (strC l)[j]? = some v → w.cell? ((⟨g, 0, none⟩ : Addr).add j) = some v := fun j v hj => by
      have hjl : j < l.length := by have := (List.getElem?_eq_some_iff.1 hj).1; rw [strC_len] at this; exact this
      obtain ⟨g2, hg2, hc⟩ := hsb.get cx2 hjl
      cases hg2
      rw [List.getElem?_map, List.getElem?_eq_getElem hjl] at hj
      rw [addr_add, Nat.zero_add, hc]
      exact hj
    have hcan : CanWrite w b 0 l.length := cx.can 0 rfl (by rw [List.length_replicate]; omega)
    have hr := run_copyN (P := Tryd.prog) w 36 36 3 9 b 0 l.length l.length ⟨g, 0, none⟩ l.length cap (strC l) e1 e2 (by rw [e4, strC_len, Nat.mul_one]; exact (Nat.min_self _).symm) hsrc (fun j hj => (hcan j (by rw [strC_len] at hj; exact hj)).1) (fun j hj => (hcan j (by rw [strC_len] at hj; exact hj)).2) (fun v hv => by
      obtain ⟨y, _, rfl⟩ := List.mem_map.1 hv; rfl)
    rw [show Nat.min l.length l.length = l.length from Nat.min_self _] at hr
    refine ⟨_, run_cpy hr, ?_⟩
    have c3 := cx.puts 0 rfl (b := b) (i := 0) (vs := strC l) rfl
    rw [setL_eq _ _ _ (by rw [strC_len, List.length_replicate]; omega), List.take_zero, List.nil_append, strC_len, Nat.zero_add, List.drop_eq_nil_of_le (by rw [List.length_replicate]; omega), List.append_nil] at c3
    exact c3
theorem All_use [Stable Φ] {q : DkP} {x : JoP} {j : JouS} (hsb : SB x.p x.cap j.list x.o) (hl : j.list.length ≤ 1000000000) (cx : Ctx W w (JoO x q j ++ S) Φ) {K : Ending → World → Prop}
    (hk : ∀ b w', Ctx W w' (.blk b (strC j.list) 9 :: (JoO x q j ++ S)) Φ → K (.returned (.slice (some ⟨b, 0, none⟩) j.list.length j.list.length)) w') :
    Calls Tryd.prog F.journal_Journal_All #[.pointer (some ⟨x.jb, 0, none⟩)] w K := by
  refine (Bjournal_Journal_All_run x.jb 0 (J := fun u w' => K (.returned u) w') cx fun w G cx => ⟨_, _, _, cx.get 1 rfl rfl, ⟨by omega, by omega, by omega, by omega⟩, fun b w G cx => ⟨_, _, _, cx.get 2 rfl rfl, fun w G cx => ?_⟩⟩).mono fun e w' ⟨v, he, hj⟩ => by rw [he]; exact hj
  rw [Int.toNat_natCast] at cx ⊢
  obtain ⟨w', hr, c2⟩ := copy_strs (S := .blk x.jb (joB x q j) 71 :: clO x.cb q j.cell :: (S ++ G)) hsb cx
  exact ⟨_, w', hr, .blk b (strC j.list) 9 :: (JoO x q j ++ S), Φ, inferInstance, c2, fun w G cx => hk b w (Ctx.left cx)⟩

def restJ (base : Int) : Nat → DsS → DsS × Option JouS × Int
  | 0, d => (d, openJ1 d base)
  | k + 1, d => if (syncS d (if k = 0 then base + 1 else base)).2 ≠ 0 then ((syncS d (if k = 0 then base + 1 else base)).1, none, (syncS d (if k = 0 then base + 1 else base)).2) else restJ base k (syncS d (if k = 0 then base + 1 else base)).1
theorem openJ_rest {d : DsS} {base : Int} (h : ¬ (base < 0 ∨ 14 < base)) : openJ d base = restJ base 2 d := by
  unfold openJ; rw [if_neg h]; rfl
theorem openC_none {d : DsS} {f e : Int} (h : openC d f = (none, e)) : e ≠ 0 := by
  unfold openC at h
  repeat' split at h
  all_goals first
    | (cases h; assumption)
    | (cases h; decide)
    | cases h
theorem openC_value {d : DsS} {q : DkP} (hq : DkQ q d) {f e : Int} {c : CelS} (h : openC d f = (some c, e)) : c.value.length ≤ 16777216 ∧ e = 0 := by
  unfold openC at h
  repeat' split at h
  all_goals first
    | (cases h; exact ⟨Nat.zero_le _, rfl⟩)
    | (cases h; exact ⟨read_len hq _ _ _, rfl⟩)
    | cases h
theorem JOpen_use [Stable Φ] {q : DkP} {d : DsS} (hq : DkQ q d) (hkp : DkK Φ q d) (hoff : ∀ M w, Φ M w → OffI M w) (hN : ∀ M w, Φ M w → NumI M w) {base : Int} (cx : Ctx W w (dkL q d ++ S) Φ) {K : Ending → World → Prop}
    (hn : ∀ u d' e w', openJ d base = (d', none, e) → DkQ (q.mv u) d' → d'.keep = d.keep → Ctx W w' (dkL (q.mv u) d' ++ S) Φ → K (.returned (.tuple #[.pointer none, .int .i64 e])) w')
    (hs : ∀ u x d' j w', openJ d base = (d', some j, 0) → SB x.p x.cap j.list x.o → DkQ (q.mv u) d' → d'.keep = d.keep → Ctx W w' (JoO x q j ++ (dkL (q.mv u) d' ++ S)) Φ → K (.returned (.tuple #[.pointer (some ⟨x.jb, 0, none⟩), .int .i64 0])) w') :
    Calls Tryd.prog F.journal_Open #[.pointer (some ⟨q.db, 0, none⟩), .int .i64 base] w K := by
  refine (Bjournal_Open_run q.db 0 base (J := fun u w' => K (.returned u) w') cx fun w G cx => Br.intro (fun h => fun w G cx => ?_) (fun h => ?_)).mono fun e w' ⟨v, he, hj⟩ => by rw [he]; exact hj
  · have h : base < 0 ∨ 14 < base := by simpa using h
    exact hn q.un d 1 w (by unfold openJ; rw [if_pos h]) hq rfl (Ctx.left cx)
  have h : ¬ (base < 0 ∨ 14 < base) := by simpa using h
  have hrest := openJ_rest (d := d) h
  refine ⟨by unfold I64; omega, fun kb => exI_mk (fun n R' Φ' k => ∃ u d1, n = ((2 - k : Nat) : Int) ∧ k ≤ 2 ∧ R' = .blk kb [.int .i64 base, .int .i64 (base + 1)] 3 :: (dkL (q.mv u) d1 ++ S) ∧ Φ' = Φ ∧ DkQ (q.mv u) d1 ∧ d1.keep = d.keep ∧ openJ d base = restJ base k d1) ⟨⟨_, Φ, 2, inferInstance, fun w G cx => cx, q.un, d, rfl, Nat.le_refl _, rfl, rfl, hq, rfl, hrest⟩, ?_⟩⟩
  clear cx
  rintro n R1 Φ k st ⟨u, d1, rfl, hk2, rfl, rfl, hq1, hkeep, hrest⟩
  refine Br.intro (fun hlt => ⟨⟨by omega, of_decide_eq_true hlt⟩, fun w G cx => ?_⟩) (fun hge => ⟨by unfold I64; omega, fun w G cx => ?_⟩)
  · have hlt := of_decide_eq_true hlt
    obtain ⟨k, rfl⟩ : ∃ m, k = m + 1 := ⟨k - 1, by omega⟩
    have hfile : w.cell? ⟨kb, 0 + ((2 - (k + 1) : Nat) : Int).toNat, none⟩ = some (.int .i64 (if k = 0 then base + 1 else base)) := by
      rw [Int.toNat_natCast, Nat.zero_add]
      have hk : k = 0 ∨ k = 1 := by omega
      rcases hk with rfl | rfl
      · exact cx.get 0 rfl rfl
      · exact cx.get 0 rfl rfl
    refine ⟨_, hfile, fun w G cx => ?_⟩
    have hrest : openJ d base = if (syncS d1 (if k = 0 then base + 1 else base)).2 ≠ 0 then ((syncS d1 (if k = 0 then base + 1 else base)).1, none, (syncS d1 (if k = 0 then base + 1 else base)).2) else restJ base k (syncS d1 (if k = 0 then base + 1 else base)).1 := hrest
    have hsk := sync_keep d1 (if k = 0 then base + 1 else base)
    refine Sync_use (q := q.mv u) (S := .blk kb [.int .i64 base, .int .i64 (base + 1)] 3 :: (S ++ G)) hq1 (hkp.of hkeep u) (own_in cx) fun u w hq2 cx => ?_
    generalize syncS d1 (if k = 0 then base + 1 else base) = r at hrest hq2 cx hsk
    obtain ⟨d2, e2⟩ := r
    simp only at hrest hq2 cx hsk
    refine ⟨e2, rfl, .blk kb [.int .i64 base, .int .i64 (base + 1)] 3 :: (dkL (q.mv u) d2 ++ S), Φ, inferInstance, own_out cx, Br.intro (fun h4 => fun w G cx => ?_) (fun h4 => ?_)⟩
    · rw [if_pos (of_decide_eq_true h4)] at hrest
      exact hn u d2 e2 w hrest hq2 (hsk.trans hkeep) (Ctx.left (Ctx.drop1 cx))
    · rw [if_neg (of_decide_eq_false h4)] at hrest
      exact ⟨by unfold I64; omega, _, Φ, k, inferInstance, fun w G cx => cx, ⟨u, d2, by omega, by omega, rfl, rfl, hq2, hsk.trans hkeep, hrest⟩, Nat.lt_succ_self _⟩
  · have hge := of_decide_eq_false hge
    have hk0 : k = 0 := by omega
    subst hk0
    have hrest : openJ d base = (d1, openJ1 d1 base) := hrest
    have cx : Ctx W w (dkL (q.mv u) d1 ++ (S ++ G)) Φ := by
      have this : Ctx W w ((dkL (q.mv u) d1 ++ S) ++ G) Φ := cx.drop1
      rw [List.append_assoc] at this
      exact this
    unfold openJ1 at hrest
    refine COpen_use (q := q.mv u) hq1 hoff cx (fun e w ho cx => ?_) (fun c cb w ho cx => ?_)
    · rw [ho] at hrest
      refine ⟨none, e, rfl, dkL (q.mv u) d1 ++ S, Φ, inferInstance, by rw [List.append_assoc]; exact cx, Br.intro (fun h4 => fun w G cx => ?_) (fun h4 => absurd (Decidable.not_not.1 (of_decide_eq_false h4)) (openC_none ho))⟩
      exact hn u d1 e w hrest hq1 hkeep (Ctx.left cx)
    · rw [ho] at hrest
      have hcv := (openC_value hq1 ho).1
      simp only at hrest
      unfold openJ2 at hrest
      refine ⟨some ⟨cb, 0, none⟩, 0, rfl, clO cb q c :: (dkL (q.mv u) d1 ++ S), Φ, inferInstance, re4 cx, Br.intro (fun h4 => absurd rfl (of_decide_eq_true h4)) (fun h4 => fun w G cx => ?_)⟩
      refine numbers_use (S := (dkL (q.mv u) d1 ++ S) ++ G) hN (by omega) cx fun w cx => ?_
      generalize numsJ c = r at hrest
      obtain ⟨b, m, ok⟩ := r
      simp only at hrest
      refine ⟨b, m, ok, rfl, clO cb q c :: (dkL (q.mv u) d1 ++ S), Φ, inferInstance, cx, Br.intro (fun h5 => fun w G cx => ?_) (fun h5 => fun w G cx => ?_)⟩
      · rw [if_pos (by simpa using h5)] at hrest
        exact hn u d1 2 w hrest hq1 hkeep (Ctx.left (Ctx.drop1 cx))
      rw [if_neg (by simpa using h5)] at hrest
      have hrl := read_len hq1 base 0 b
      refine DRead_use (q := q.mv u) (S := clO cb q c :: (S ++ G)) hq1 (own_in cx) fun w cx => ?_
      generalize readS d1 base 0 b = r at hrest hrl
      obtain ⟨s, e⟩ := r
      simp only at hrest hrl
      refine ⟨bs s, e, rfl, clO cb q c :: (dkL (q.mv u) d1 ++ S), Φ, inferInstance, own_out cx, Br.intro (fun h6 => fun w G cx => ?_) (fun h6 => fun w G cx => ?_)⟩
      · rw [if_pos (of_decide_eq_true h6)] at hrest
        exact hn u d1 e w hrest hq1 hkeep (Ctx.left (Ctx.drop1 cx))
      rw [if_neg (of_decide_eq_false h6)] at hrest
      refine Read_use (S := (clO cb q c :: (dkL (q.mv u) d1 ++ S)) ++ G) hN hrl cx (fun p k cp w hr cx => ?_) (fun p cap l o w hr hsb cx => ?_)
      · rw [hr] at hrest
        refine ⟨p, k, cp, false, rfl, clO cb q c :: (dkL (q.mv u) d1 ++ S), Φ, inferInstance, cx, fun w G cx => Br.intro (fun _ => fun w G cx => ?_) (fun h7 => by simp at h7)⟩
        exact hn u d1 2 w hrest hq1 hkeep (Ctx.left (Ctx.drop1 cx))
      · rw [hr] at hrest
        simp only at hrest
        refine ⟨p, _, cap, true, rfl, o :: clO cb q c :: (dkL (q.mv u) d1 ++ S), Φ, inferInstance, cx, fun w G cx => Br.intro (fun h7 => fun w G cx => ?_) (fun h7 => fun jb w G cx => ?_)⟩
        · have h7 : (s.length : Int) ≠ b := by rw [bs_size] at h7; simpa using h7
          rw [if_pos h7] at hrest
          exact hn u d1 2 w hrest hq1 hkeep (Ctx.left (Ctx.drop1 (Ctx.drop1 cx)))
        · have h7 : (s.length : Int) = b := by rw [bs_size] at h7; simpa using h7
          rw [if_neg (fun h => h h7)] at hrest
          have hb : b = ((b.toNat : Nat) : Int) := by omega
          refine hs u ⟨jb, cb, p, cap, o⟩ d1 _ w hrest hsb hq1 hkeep ?_
          have cx : Ctx W w ([Own.blk jb [.pointer (some ⟨q.db, 0, none⟩), .int .i64 base, .pointer (some ⟨cb, 0, none⟩), .slice p l.length cap, .int .i64 b, .bool false] 71, o] ++ (clO cb q c :: (dkL (q.mv u) d1 ++ S))) Φ := Ctx.left cx
          rw [hb] at cx
          exact cx.perm (List.Perm.swap _ _ _)
end
end Go.Proofs.YtfccagphnfceiaaDoor
end

/-
  Comparing lists; journals that work: the calls, at one go.
-/
section
set_option linter.unusedVariables false
set_option linter.unusedSimpArgs false
namespace Go.Proofs.YtfccagphnfceiaaDoor
open Go.Vc

section
variable {W w : World} {S G : List Own} {Φ : PW}
theorem Same_in [Stable Φ] {p q : Option Addr} {ac bc : Nat} {a b : List ByteArray} (ha : ∀ M w, Φ M w → Sl M w p a) (hb : ∀ M w, Φ M w → Sl M w q b) (hl : a.length ≤ 1000000000) : GivesIn Φ Tryd.prog F.errataref01_SameTexts #[.slice p a.length ac, .slice q b.length bc] (.bool (decide (a = b))) := by
  refine .there (fun M w h => (ha M w h).there) fun hta => .there (fun M w h => (hb M w h).there) fun htb => ?_
  refine gives_in (Berrataref01_SameTexts_run p a.length ac q b.length bc) fun W R => Br.intro (fun h => fun w G cx => ⟨?_, cx.left⟩) (fun h => ?_)
  · rw [decide_eq_false fun e => of_decide_eq_true h (by rw [e])]
  have h : a.length = b.length := by have := of_decide_eq_false h; omega
  refine exI_mk (fun n R' Φ' k => ∃ i : Nat, n = i ∧ i + k = a.length ∧ R' = R ∧ Φ' = Φ ∧ a.take i = b.take i) ⟨⟨_, Φ, a.length, inferInstance, fun w G cx => cx, 0, rfl, by omega, rfl, rfl, by simp⟩, ?_⟩
  rintro n R1 Φ k _ ⟨i, rfl, hik, rfl, rfl, htk⟩
  refine Br.intro (fun hlt => fun w G cx => ?_) (fun hge => fun w G cx => ⟨?_, cx.left⟩)
  · have hlt : i < a.length := by have := of_decide_eq_true hlt; omega
    obtain ⟨k, rfl⟩ : ∃ m, k = m + 1 := ⟨k - 1, by omega⟩
    obtain ⟨g, o, rfl⟩ := hta (by omega)
    obtain ⟨g2, o2, rfl⟩ := htb (by omega)
    refine ⟨⟨by omega, by omega⟩, ptrK_intro g o rfl ⟨a[i], by rw [Int.toNat_natCast]; exact sl_str (ha _ _ cx.phi) hlt, ⟨by omega, by omega⟩, ptrK_intro g2 o2 rfl ⟨b[i]'(by omega), by rw [Int.toNat_natCast]; exact sl_str (hb _ _ cx.phi) (by omega), Br.intro (fun hne => fun w G cx => ⟨?_, cx.left⟩) (fun he => ?_)⟩⟩⟩
    · rw [decide_eq_false fun e => of_decide_eq_true hne (by simp only [e])]
    · refine ⟨by unfold I64; omega, _, Φ, k, inferInstance, fun w G cx => cx, ⟨i + 1, by omega, by omega, rfl, rfl, ?_⟩, Nat.lt_succ_self _⟩
      rw [List.take_succ_eq_append_getElem hlt, List.take_succ_eq_append_getElem (by omega : i < b.length), htk, Decidable.not_not.1 (of_decide_eq_false he)]
  · have hge : i = a.length := by have := of_decide_eq_false hge; omega
    subst hge
    rw [List.take_length, h, List.take_length] at htk
    rw [decide_eq_true htk]

/-- the tables that the program reads -/
structure JI (Φ : PW) : Prop where
  num : ∀ M w, Φ M w → NumI M w
  off : ∀ M w, Φ M w → OffI M w
theorem JI.tab (h : JI Φ) : ∀ M w, Φ M w → TabI M w := fun M w hp => (h.num M w hp).1
theorem JI.weak (h : JI Φ) {Ψ : PW} (e : ∀ M w, Ψ M w → Φ M w) : JI Ψ := ⟨fun M w hp => h.num M w (e M w hp), fun M w hp => h.off M w (e M w hp)⟩
/-- a journal in memory -/
structure JM (Φ : PW) (q : DkP) (d : DsS) (x : JoP) (j : JouS) : Prop where
  dq : DkQ q d
  kk : DkK Φ q d
  sb : SB x.p x.cap j.list x.o
theorem JM.weak {q : DkP} {d : DsS} {x : JoP} {j : JouS} (h : JM Φ q d x j) {Ψ : PW} (e : ∀ M w, Ψ M w → Φ M w) : JM Ψ q d x j := ⟨h.dq, h.kk.weak e, h.sb⟩
/-- one that works -/
structure JF (d : DsS) (j : JouS) : Prop where
  live : Live d j
  ok : j.broken = false
  fine : DsH d
theorem live_len {d : DsS} {j : JouS} (h : Live d j) : j.list.length ≤ 1048576 ∧ j.bytes ≤ 1048576 ∧ ∀ x ∈ j.list, x.size ≤ 1048576 := by
  have h1 := h.most
  have h2 := formL_len (l := j.list) fun x hx => Nat.le_trans (formL_size hx) (by omega)
  have h3 := h.bytes
  exact ⟨by omega, by omega, fun x hx => Nat.le_trans (formL_size hx) h1⟩
theorem append_nil (d : DsS) {j : JouS} (h : j.broken = false) : appendS d j [] = (d, j, 0) := by
  unfold appendS; rw [if_neg (by rw [h]; simp), if_pos rfl]

theorem FAppend_use [Stable Φ] (hi : JI Φ) {q : DkP} {d : DsS} {x : JoP} {j : JouS} (hm : JM Φ q d x j) (hf : JF d j) {lp : Option Addr} {lc : Nat} {l : List ByteArray} (hsl : ∀ M w, Φ M w → Sl M w lp l) (hl : (formL j.list).length + (formL l).length ≤ 1048576) (cx : Ctx W w (JoO x q j ++ (dkL q d ++ S)) Φ) {K : Ending → World → Prop}
    (hk : ∀ u p c o d' j' w', JM Φ (q.mv u) d' (x.mv p c o) j' → JF d' j' → j'.list = j.list ++ l → j'.base = j.base → d'.keep = d.keep → (∀ G, Ev (d.files G) (d'.files G) ∨ (G = j.base ∨ G = j.base + 1)) → Ctx W w' (JoO (x.mv p c o) q j' ++ (dkL (q.mv u) d' ++ S)) Φ → K (.returned (.int .i64 0)) w') :
    Calls Tryd.prog F.journal_Journal_Append #[.pointer (some ⟨x.jb, 0, none⟩), .slice lp l.length lc] w K := by
  obtain ⟨h1, h2, h3⟩ := live_len hf.live
  have h4 := formL_len (l := l) fun x hx => Nat.le_trans (formL_size hx) (by omega)
  have hb := hf.live.bytes
  refine Append_use hm.dq hm.kk hi.off hi.tab hm.sb hsl (by omega) (by omega) (by omega) cx fun u p c o w hsb hq cx => ?_
  have hkeep : (appendS d j l).1.keep = d.keep := by
    unfold appendS
    split
    · rfl
    · split
      · rfl
      · split
        · rfl
        · split
          · exact log_keep _ _ _
          · unfold gotS; split
            · show (noteS _ _ _ _).1.keep = _
              rw [note_keep, log_keep]
            · show (noteS _ _ _ _).1.keep = _
              rw [note_keep, log_keep]
  by_cases hnil : l = []
  · subst hnil
    rw [append_nil d hf.ok] at hsb hq cx ⊢
    exact hk u p c o d j w ⟨hq, hm.kk.of rfl u, hsb⟩ hf (by simp) rfl rfl (fun G => .inl (.refl _)) cx
  have ho := append_out hf.live hf.ok hm.dq.w hnil (by omega)
  obtain ⟨hfin, he⟩ := ho.fine hf.fine
  rcases ho.or with ⟨_, g1, g2, g3⟩ | ⟨g, _⟩
  · rw [he]
    exact hk u p c o _ _ w ⟨hq, hm.kk.of hkeep u, hsb⟩ ⟨g3, g1, hfin⟩ g2 ho.base hkeep ho.other cx
  · rw [he] at g; omega
theorem got_keep (j : JouS) (l : List ByteArray) (b : Nat) (r : DsS × JouS × Int) : (gotS j l b r).1 = r.1 := by
  unfold gotS; split <;> rfl
theorem cutS_keep (d : DsS) (j : JouS) (n : Int) : (cutS d j n).1.keep = d.keep := by
  unfold cutS
  split
  · rfl
  · split
    · rfl
    · split
      · rfl
      · rw [got_keep, note_keep]
theorem appendS_keep (d : DsS) (j : JouS) (l : List ByteArray) : (appendS d j l).1.keep = d.keep := by
  unfold appendS
  split
  · rfl
  · split
    · rfl
    · split
      · rfl
      · split
        · exact log_keep _ _ _
        · rw [got_keep, note_keep, log_keep]
theorem FCut_use [Stable Φ] (hi : JI Φ) {q : DkP} {d : DsS} {x : JoP} {j : JouS} (hm : JM Φ q d x j) (hf : JF d j) {n : Int} (cx : Ctx W w (JoO x q j ++ (dkL q d ++ S)) Φ) {K : Ending → World → Prop}
    (hk : ∀ u p c o d' j' e w', JM Φ (q.mv u) d' (x.mv p c o) j' → JF d' j' → j'.list = (if 0 ≤ n ∧ n ≤ (j.list.length : Int) then j.list.take n.toNat else j.list) → e = (if 0 ≤ n ∧ n ≤ (j.list.length : Int) then 0 else 1) → j'.base = j.base → d'.keep = d.keep → (∀ G, Ev (d.files G) (d'.files G) ∨ (G = j.base ∨ G = j.base + 1)) → Ctx W w' (JoO (x.mv p c o) q j' ++ (dkL (q.mv u) d' ++ S)) Φ → K (.returned (.int .i64 e)) w') :
    Calls Tryd.prog F.journal_Journal_Cut #[.pointer (some ⟨x.jb, 0, none⟩), .int .i64 n] w K := by
  have hmost := hf.live.most
  refine Cut_use hm.dq hm.kk hi.off hi.tab hm.sb (by omega) cx fun u p c o w hsb hq cx => ?_
  have hkeep := cutS_keep d j n
  have hb : ¬ j.broken = true := by rw [hf.ok]; simp
  by_cases h1 : n < 0 ∨ (j.list.length : Int) < n
  · have e : cutS d j n = (d, j, 1) := by unfold cutS; rw [if_neg hb, if_pos h1]
    rw [e] at hsb hq cx hkeep ⊢
    exact hk u p c o d j 1 w ⟨hq, hm.kk.of rfl u, hsb⟩ hf (by rw [if_neg (by omega)]) (by rw [if_neg (by omega)]) rfl rfl (fun G => .inl (.refl _)) cx
  · by_cases h2 : n = (j.list.length : Int)
    · have e : cutS d j n = (d, j, 0) := by unfold cutS; rw [if_neg hb, if_neg h1, if_pos h2]
      rw [e] at hsb hq cx hkeep ⊢
      exact hk u p c o d j 0 w ⟨hq, hm.kk.of rfl u, hsb⟩ hf (by rw [if_pos (by omega), List.take_of_length_le (by omega)]) (by rw [if_pos (by omega)]) rfl rfl (fun G => .inl (.refl _)) cx
    · obtain ⟨k, rfl⟩ : ∃ k : Nat, n = k := ⟨n.toNat, by omega⟩
      have ho := cut_out hf.live hf.ok hm.dq.w (n := k) (by omega)
      obtain ⟨hfin, he⟩ := ho.fine hf.fine
      rcases ho.or with ⟨_, g1, g2, g3⟩ | ⟨g, _⟩
      · rw [he]
        exact hk u p c o _ _ 0 w ⟨hq, hm.kk.of hkeep u, hsb⟩ ⟨g3, g1, hfin⟩ (by rw [if_pos (by omega), g2, Int.toNat_natCast]) (by rw [if_pos (by omega)]) ho.base hkeep ho.other cx
      · rw [he] at g; omega
theorem FOpen_use [Stable Φ] (hi : JI Φ) {q : DkP} {d : DsS} (hq : DkQ q d) (hkk : DkK Φ q d) (hf : DsH d) {b : Int} (hb : 0 ≤ b ∧ b ≤ 14) {P : List ByteArray → Prop} (hJ : JFut d b P) (cx : Ctx W w (dkL q d ++ S) Φ) {K : Ending → World → Prop}
    (hk : ∀ u x d' j w', JM Φ (q.mv u) d' x j → JF d' j → P j.list → j.base = b → d'.keep = d.keep → (∀ G, Ev (d.files G) (d'.files G) ∨ (G = b ∨ G = b + 1)) → Ctx W w' (JoO x q j ++ (dkL (q.mv u) d' ++ S)) Φ → K (.returned (.tuple #[.pointer (some ⟨x.jb, 0, none⟩), .int .i64 0])) w') :
    Calls Tryd.prog F.journal_Open #[.pointer (some ⟨q.db, 0, none⟩), .int .i64 b] w K := by
  have ho := openJ_out hb hq.w hJ
  obtain ⟨hfin, he⟩ := ho.fine hf
  refine JOpen_use hq hkk hi.off hi.num cx (fun u d' e w hop hq' hkeep cx => ?_) (fun u x d' j w hop hsb hq' hkeep cx => ?_)
  · rcases ho.or with ⟨j, h1, _⟩ | ⟨_, h1, _⟩
    · rw [hop] at h1; cases h1
    · omega
  · rcases ho.or with ⟨j2, h1, _, h3, h4, h5, h6⟩ | ⟨h1, _⟩
    · have hoth := ho.other
      rw [hop] at h1 hfin h3 hoth
      cases h1
      exact hk u x d' j w ⟨hq', hkk.of hkeep u, hsb⟩ ⟨h3, h6, hfin⟩ h4 h5 hkeep hoth cx
    · rw [hop] at h1; cases h1
end
end Go.Proofs.YtfccagphnfceiaaDoor
end

/-
  Journals through failures, in plain Lean: what each call may come to.
-/
section
set_option linter.unusedVariables false
set_option linter.unusedSimpArgs false
namespace Go.Proofs.YtfccagphnfceiaaDoor
open Go.Vc

/-! ### no crash is scheduled -/
theorem tick_arm {d : DsS} (h : d.armed = 0) : (tickS d).armed = 0 := by
  unfold tickS; rw [if_pos (.inr h)]; exact h
theorem crash_arm {d : DsS} (h : d.armed = 0) (l : List Int) : (crashS d l).armed = 0 := by
  unfold crashS; split
  · exact h
  · rfl
theorem write0_arm (d : DsS) (f a : Int) (s : Bs) : (write0 d f a s).1.armed = d.armed := by
  unfold write0
  repeat' split
  all_goals rfl
theorem write_arm {d : DsS} (h : d.armed = 0) (f a : Int) (s : Bs) : (writeS d f a s).1.armed = 0 := by
  unfold writeS; split
  · exact crash_arm (by rw [write0_arm]; exact tick_arm h) _
  · rw [write0_arm]; exact tick_arm h
theorem fall_arm {d : DsS} (h : d.armed = 0) : (fallS d).armed = 0 := by
  unfold fallS; split
  · exact crash_arm (tick_arm h) _
  · exact tick_arm h
theorem sync_arm {d : DsS} (h : d.armed = 0) (f : Int) : (syncS d f).1.armed = 0 := by
  unfold syncS sync0
  repeat' split
  all_goals exact fall_arm h
theorem setC2_arm {d : DsS} (h : d.armed = 0) (c : CelS) (s : Bs) (n : Nat) : (setC2 d c s n).1.armed = 0 := by
  unfold setC2
  repeat' split
  · exact write_arm h _ _ _
  · exact sync_arm (write_arm h _ _ _) _
  · exact write_arm (sync_arm (write_arm h _ _ _) _) _ _ _
  · exact sync_arm (write_arm (sync_arm (write_arm h _ _ _) _) _ _ _) _
theorem setC_arm {d : DsS} (h : d.armed = 0) (c : CelS) (s : Bs) : (setC d c s).1.armed = 0 := by
  unfold setC
  repeat' split
  all_goals first
    | exact h
    | exact sync_arm h _
    | exact setC2_arm (sync_arm h _) _ _ _
    | exact setC2_arm h _ _ _
theorem note_arm {d : DsS} (h : d.armed = 0) (j : JouS) (b n : Nat) : (noteS d j b n).1.armed = 0 := setC_arm h _ _
theorem log_arm {d : DsS} (h : d.armed = 0) (j : JouS) (l : List ByteArray) : (logS d j l).1.armed = 0 := by
  unfold logS; split
  · exact sync_arm (write_arm h _ _ _) _
  · exact write_arm h _ _ _
theorem append_arm {d : DsS} (h : d.armed = 0) (j : JouS) (l : List ByteArray) : (appendS d j l).1.armed = 0 := by
  unfold appendS
  split
  · exact h
  · split
    · exact h
    · split
      · exact h
      · split
        · exact log_arm h _ _
        · rw [got_keep]; exact note_arm (log_arm h _ _) _ _ _
theorem cut_arm {d : DsS} (h : d.armed = 0) (j : JouS) (n : Int) : (cutS d j n).1.armed = 0 := by
  unfold cutS
  split
  · exact h
  · split
    · exact h
    · split
      · exact h
      · rw [got_keep]; exact note_arm h _ _ _
theorem open_arm {d : DsS} (h : d.armed = 0) (b : Int) : (openJ d b).1.armed = 0 := by
  unfold openJ
  repeat' split
  · exact h
  · exact sync_arm h _
  · exact sync_arm (sync_arm h _) _
  · exact sync_arm (sync_arm h _) _

/-! ### a journal, whatever fails -/
structure SI (d : DsS) (j : JouS) : Prop where
  base : 0 ≤ j.base ∧ j.base ≤ 14
  bytes : j.bytes ≤ 1048576
  most : (formL j.list).length ≤ 1048576
  live : j.broken = false → Live d j
theorem SI.len {d : DsS} {j : JouS} (h : SI d j) : j.list.length ≤ 1048576 ∧ ∀ x ∈ j.list, x.size ≤ maxLen := by
  have h1 := h.most
  have h2 := formL_len (l := j.list) fun x hx => Nat.le_trans (formL_size hx) (by omega)
  exact ⟨by omega, fun x hx => Nat.le_trans (formL_size hx) (by unfold maxLen; omega)⟩
theorem SI.of_live {d : DsS} {j : JouS} (h : Live d j) : SI d j := ⟨h.base, (live_len h).2.1, h.most, fun _ => h⟩
theorem JFut.frame {d d' : DsS} {b : Int} {P : List ByteArray → Prop} (h : JFut d b P) (hf : d'.files = d.files) : JFut d' b P := by
  unfold JFut at *
  rw [hf]
  exact h
theorem SI.frame {d d' : DsS} {j : JouS} (h : SI d j) (hf : d'.files = d.files) : SI d' j := ⟨h.base, h.bytes, h.most, fun hb => (h.live hb).frame hf⟩
theorem append_fail {d : DsS} {j : JouS} {l : List ByteArray} (h : (appendS d j l).2.2 ≠ 0) : (appendS d j l).2.1.bytes = j.bytes := by
  unfold appendS at *
  split at h
  · rename_i hc; rw [if_pos hc]
  · rename_i hc
    rw [if_neg hc]
    split at h
    · rename_i hc; rw [if_pos hc]
    · rename_i hc
      rw [if_neg hc]
      split at h
      · rename_i hc; rw [if_pos hc]
      · rename_i hc
        rw [if_neg hc]
        split at h
        · rename_i hc; rw [if_pos hc]
        · rename_i hc
          rw [if_neg hc]
          unfold gotS at *
          split at h
          · rename_i hc; rw [if_pos hc]; rfl
          · exact absurd rfl h
theorem cut_fail {d : DsS} {j : JouS} {n : Int} (h : (cutS d j n).2.2 ≠ 0) : (cutS d j n).2.1.bytes = j.bytes := by
  unfold cutS at *
  split at h
  · rename_i hc; rw [if_pos hc]
  · rename_i hc
    rw [if_neg hc]
    split at h
    · rename_i hc; rw [if_pos hc]
    · rename_i hc
      rw [if_neg hc]
      split at h
      · rename_i hc; rw [if_pos hc]
      · rename_i hc
        rw [if_neg hc]
        unfold gotS at *
        split at h
        · rename_i hc; rw [if_pos hc]; rfl
        · exact absurd rfl h
/-- what a call on a journal came to -/
structure CallR (d : DsS) (j : JouS) (want : List ByteArray) (r : DsS × JouS × Int) : Prop where
  si : SI r.1 r.2.1
  base : r.2.1.base = j.base
  or : (r.1 = d ∧ r.2.1 = j ∧ r.2.2 ≠ 9 ∧ r.2.2 ≠ 10 ∧ (r.2.2 = 0 → want = j.list ∧ j.broken = false)) ∨ (r.2.2 = 0 ∧ r.2.1.broken = false ∧ r.2.1.list = want ∧ Live r.1 r.2.1) ∨
    ((r.2.2 = 9 ∨ r.2.2 = 10) ∧ r.2.1.broken = true ∧ r.2.1.list = j.list ∧ JFut r.1 j.base fun l => l = j.list ∨ l = want)
theorem append_call {d : DsS} {j : JouS} {l : List ByteArray} (h : SI d j) (hw : DsW d) : CallR d j (j.list ++ l) (appendS d j l) := by
  by_cases hb : j.broken = true
  · have e : appendS d j l = (d, j, 7) := by unfold appendS; rw [if_pos hb]
    rw [e]
    exact ⟨h, rfl, .inl ⟨rfl, rfl, by simp, by simp, fun h => by simp at h⟩⟩
  by_cases hl : l = []
  · have e : appendS d j l = (d, j, 0) := by unfold appendS; rw [if_neg hb, if_pos hl]
    rw [e]
    exact ⟨h, rfl, .inl ⟨rfl, rfl, by simp, by simp, fun _ => ⟨by rw [hl, List.append_nil], by simpa using hb⟩⟩⟩
  by_cases hm : 1048576 < j.bytes + (formL l).length
  · have e : appendS d j l = (d, j, 6) := by unfold appendS; rw [if_neg hb, if_neg hl, if_pos hm]
    rw [e]
    exact ⟨h, rfl, .inl ⟨rfl, rfl, by simp, by simp, fun h => by simp at h⟩⟩
  have hb : j.broken = false := by simpa using hb
  have ho := append_out (h.live hb) hb hw hl (by omega)
  rcases ho.or with ⟨e, g1, g2, g3⟩ | ⟨e, g1, g2, g3⟩
  · exact ⟨.of_live g3, ho.base, .inr (.inl ⟨e, g1, g2, g3⟩)⟩
  · refine ⟨⟨by rw [ho.base]; exact h.base, by rw [append_fail (by omega)]; exact h.bytes, by rw [g2]; exact h.most, fun h => by rw [g1] at h; cases h⟩, ho.base, .inr (.inr ⟨e, g1, g2, g3⟩)⟩
theorem cut_call {d : DsS} {j : JouS} {n : Int} (h : SI d j) (hw : DsW d) : CallR d j (j.list.take n.toNat) (cutS d j n) := by
  by_cases hb : j.broken = true
  · have e : cutS d j n = (d, j, 7) := by unfold cutS; rw [if_pos hb]
    rw [e]
    exact ⟨h, rfl, .inl ⟨rfl, rfl, by simp, by simp, fun h => by simp at h⟩⟩
  by_cases hn : n < 0 ∨ (j.list.length : Int) < n
  · have e : cutS d j n = (d, j, 1) := by unfold cutS; rw [if_neg hb, if_pos hn]
    rw [e]
    exact ⟨h, rfl, .inl ⟨rfl, rfl, by simp, by simp, fun h => by simp at h⟩⟩
  by_cases hl : n = (j.list.length : Int)
  · have e : cutS d j n = (d, j, 0) := by unfold cutS; rw [if_neg hb, if_neg hn, if_pos hl]
    rw [e]
    exact ⟨h, rfl, .inl ⟨rfl, rfl, by simp, by simp, fun _ => ⟨List.take_of_length_le (by omega), by simpa using hb⟩⟩⟩
  obtain ⟨k, rfl⟩ : ∃ k : Nat, n = k := ⟨n.toNat, by omega⟩
  have hb : j.broken = false := by simpa using hb
  have ho := cut_out (h.live hb) hb hw (n := k) (by omega)
  rw [Int.toNat_natCast]
  rcases ho.or with ⟨e, g1, g2, g3⟩ | ⟨e, g1, g2, g3⟩
  · exact ⟨.of_live g3, ho.base, .inr (.inl ⟨e, g1, g2, g3⟩)⟩
  · refine ⟨⟨by rw [ho.base]; exact h.base, by rw [cut_fail (by omega)]; exact h.bytes, by rw [g2]; exact h.most, fun h => by rw [g1] at h; cases h⟩, ho.base, .inr (.inr ⟨e, g1, g2, g3⟩)⟩
end Go.Proofs.YtfccagphnfceiaaDoor
end

/-
  The example of the laws of journals; the checks of what comes in: walked.
-/
section
set_option linter.unusedVariables false
set_option linter.unusedSimpArgs false
namespace Go.Proofs.YtfccagphnfceiaaDoor
open Go.Vc

theorem formL_le {l : List ByteArray} {m : Nat} (h : ∀ x ∈ l, x.size ≤ m) (hm : m ≤ 1000000000) : (formL l).length ≤ l.length * (m + 32) := by
  induction l with
  | nil => exact Nat.zero_le _
  | cons x l ih =>
    have h1 := ih fun y hy => h y (by simp [hy])
    have h2 := h x (by simp)
    have h3 := textB_size (s := x) (by omega)
    rw [formL_cons, List.length_append, List.length_cons, Nat.add_mul, Nat.one_mul, list_size]
    omega
section
variable {W w : World} {S R G : List Own} {Φ : PW}
theorem froz [Stable Φ] {b : Nat} {l : List ByteArray} (hs : ∀ x ∈ l, x.size ≤ maxLen) (cx : Ctx W w (.blk b (strC l) 9 :: S) Φ) : Ctx W w S (fun M w => Φ M w ∧ Sl M w (some ⟨b, 0, none⟩) l) := by
  obtain ⟨c1, h1⟩ := cx.freezeBlk (elems_strJ hs)
  exact c1.add h1
theorem j_in {A X S G : List Own} (cx : Ctx W w ((A ++ (X ++ S)) ++ G) Φ) : Ctx W w (A ++ (X ++ (S ++ G))) Φ := by
  rw [List.append_assoc, List.append_assoc] at cx; exact cx
theorem j_out {A X S G : List Own} (cx : Ctx W w (A ++ (X ++ (S ++ G))) Φ) : Ctx W w ((A ++ (X ++ S)) ++ G) Φ := by
  rw [List.append_assoc, List.append_assoc]; exact cx
theorem small_in [Stable Φ] (hi : JI Φ) : GivesIn Φ Tryd.prog F.erratalaw06_small #[] (.bool true) := by
  refine gives_in Berratalaw06_small_run fun W R => fun w G cx => DNew_use cx fun q w hq cx => ?_
  have hi1 : JI (fun M w => Φ M w ∧ dkF q dsNew M w) := hi.weak fun _ _ h => h.1
  have hkk : DkK (fun M w => Φ M w ∧ dkF q dsNew M w) q dsNew := ⟨Nat.zero_le _, fun M w h => h.2⟩
  refine ⟨_, rfl, dkL q dsNew ++ R, fun M w => Φ M w ∧ dkF q dsNew M w, inferInstance, cx.re (List.append_assoc _ _ _).symm, Br.intro (fun h => by cases h) (fun _ => fun w G cx => ?_)⟩
  refine FOpen_use hi1 hq hkk dsNew_h ⟨by decide, by decide⟩ (new_fut 3) (cx.re (List.append_assoc _ _ _)) fun u x d j w hm hf hl hb hkeep _ cx => ?_
  have hl : j.list = [] := hl
  refine ⟨_, _, rfl, JoO x q j ++ (dkL (q.mv u) d ++ R), _, inferInstance, by rw [← List.append_assoc (dkL _ _), ← List.append_assoc] at cx; exact cx, Br.intro (fun h => by cases h) (fun _ => fun w G cx => ?_)⟩
  refine Len_use (S := (dkL (q.mv u) d ++ R) ++ G) cx fun w cx => ⟨_, rfl, JoO x q j ++ (dkL (q.mv u) d ++ R), _, inferInstance, cx, fun b1 w G cx => ?_⟩
  -- two strings
  have s1 : ∀ y ∈ [ByteArray.mk #[97], ByteArray.mk #[98, 99]], y.size ≤ 2 := by
    intro y hy
    simp only [List.mem_cons, List.not_mem_nil, or_false] at hy
    rcases hy with rfl | rfl <;> decide
  have c1 := froz (S := (JoO x q j ++ (dkL (q.mv u) d ++ R)) ++ G) (fun y hy => Nat.le_trans (s1 y hy) (by unfold maxLen; omega)) cx
  have f1 := formL_le s1 (by omega)
  have g0 : formL j.list = [] := by rw [hl]; rfl
  refine FAppend_use (lp := some ⟨b1, 0, none⟩) (lc := 2) (l := [ByteArray.mk #[97], ByteArray.mk #[98, 99]]) (S := R ++ G) (hi1.weak fun _ _ h => h.1) (hm.weak fun _ _ h => h.1) hf (fun M w h => h.2) (by rw [g0]; simp at f1 ⊢; omega) (j_in c1) fun u1 p c o d1 j1 w hm1 hf1 hl1 hb1 hk1 _ cx => ?_
  have hm1 : JM (fun M w => Φ M w ∧ dkF q dsNew M w) ((q.mv u).mv u1) d1 (x.mv p c o) j1 := ⟨hm1.dq, hm.kk.of hk1 u1, hm1.sb⟩
  rw [hl, List.nil_append] at hl1
  refine ⟨0, rfl, JoO (x.mv p c o) q j1 ++ (dkL (q.mv u1) d1 ++ R), _, inferInstance, (j_out cx).weak fun _ _ h => h.1, fun w G cx => ?_⟩
  -- nothing
  have g1 : (formL j1.list).length ≤ 100 := by rw [hl1]; simp at f1 ⊢; omega
  refine FAppend_use (q := (q.mv u).mv u1) (S := R ++ G) hi1 hm1 hf1 (lp := none) (lc := 0) (l := []) (fun M w h => Sl.nil) (by show (formL j1.list).length + 0 ≤ _; omega) (j_in cx) fun u2 p c o d2 j2 w hm2 hf2 hl2 hb2 hk2 _ cx => ?_
  have hm2 : JM (fun M w => Φ M w ∧ dkF q dsNew M w) (((q.mv u).mv u1).mv u2) d2 (x.mv p c o) j2 := ⟨hm2.dq, hm1.kk.of hk2 u2, hm2.sb⟩
  rw [hl1, List.append_nil] at hl2
  refine ⟨0, rfl, JoO (x.mv p c o) q j2 ++ (dkL (q.mv u2) d2 ++ R), _, inferInstance, j_out cx, fun b2 w G cx => ?_⟩
  -- one more
  have s3 : ∀ y ∈ [ByteArray.mk #[100]], y.size ≤ 2 := by
    intro y hy
    rw [List.mem_singleton.1 hy]; decide
  have f3 := formL_le s3 (by omega)
  have g2 : (formL j2.list).length ≤ 100 := by rw [hl2]; simp at f1 ⊢; omega
  have c3 := froz (S := (JoO (x.mv p c o) q j2 ++ (dkL (q.mv u2) d2 ++ R)) ++ G) (fun y hy => Nat.le_trans (s3 y hy) (by unfold maxLen; omega)) cx
  refine FAppend_use (q := ((q.mv u).mv u1).mv u2) (lp := some ⟨b2, 0, none⟩) (lc := 1) (l := [ByteArray.mk #[100]]) (S := R ++ G) (hi1.weak fun _ _ h => h.1) (hm2.weak fun _ _ h => h.1) hf2 (fun M w h => h.2) (by simp at f3 ⊢; omega) (j_in c3) fun u3 p c o d3 j3 w hm3 hf3 hl3 hb3 hk3 _ cx => ?_
  have hm3 : JM (fun M w => Φ M w ∧ dkF q dsNew M w) ((((q.mv u).mv u1).mv u2).mv u3) d3 (x.mv p c o) j3 := ⟨hm3.dq, hm2.kk.of hk3 u3, hm3.sb⟩
  rw [hl2] at hl3
  refine ⟨0, rfl, JoO (x.mv p c o) q j3 ++ (dkL (q.mv u3) d3 ++ R), _, inferInstance, (j_out cx).weak fun _ _ h => h.1, fun w G cx => ?_⟩
  -- the cut
  refine FCut_use (q := (((q.mv u).mv u1).mv u2).mv u3) (S := R ++ G) hi1 hm3 hf3 (j_in cx) fun u4 p c o d4 j4 e w hm4 hf4 hl4 he4 hb4 hk4 _ cx => ?_
  have hm4 : JM (fun M w => Φ M w ∧ dkF q dsNew M w) (((((q.mv u).mv u1).mv u2).mv u3).mv u4) d4 (x.mv p c o) j4 := ⟨hm4.dq, hm3.kk.of hk4 u4, hm4.sb⟩
  rw [hl3, if_pos (by decide)] at he4 hl4
  have hl4 : j4.list = [ByteArray.mk #[97], ByteArray.mk #[98, 99]] := hl4
  subst he4
  refine ⟨0, rfl, JoO (x.mv p c o) q j4 ++ (dkL (q.mv u4) d4 ++ R), _, inferInstance, j_out cx, fun w G cx => ?_⟩
  -- all
  have l4 := (live_len hf4.live)
  refine All_use (q := q) (S := (dkL (q.mv u4) d4 ++ R) ++ G) hm4.sb (by omega) cx fun b3 w cx => ?_
  have c5 := froz (S := (JoO (x.mv p c o) q j4 ++ (dkL (q.mv u4) d4 ++ R)) ++ G) (fun y hy => Nat.le_trans (l4.2.2 y hy) (by unfold maxLen; omega)) cx
  refine ⟨_, _, _, rfl, JoO (x.mv p c o) q j4 ++ (dkL (q.mv u4) d4 ++ R), _, inferInstance, c5, fun b4 w G cx => ?_⟩
  have c6 := froz (S := (JoO (x.mv p c o) q j4 ++ (dkL (q.mv u4) d4 ++ R)) ++ G) (fun y hy => Nat.le_trans (s1 y hy) (by unfold maxLen; omega)) cx
  refine (Same_in (Φ := fun M w => ((Φ M w ∧ dkF q dsNew M w) ∧ Sl M w (some ⟨b3, 0, none⟩) j4.list) ∧ Sl M w (some ⟨b4, 0, none⟩) [ByteArray.mk #[97], ByteArray.mk #[98, 99]]) (fun M w h => h.1.2) (fun M w h => h.2) (by omega)).use c6 fun w cx => ?_
  rw [decide_eq_true hl4]
  refine ⟨true, rfl, JoO (x.mv p c o) q j4 ++ (dkL (q.mv u4) d4 ++ R), fun M w => Φ M w ∧ dkF q dsNew M w, inferInstance, cx.weak fun _ _ h => h.1.1, fun b5 w G cx => ?_⟩
  -- a last one
  have s7 : ∀ y ∈ [ByteArray.mk #[101]], y.size ≤ 2 := by
    intro y hy
    rw [List.mem_singleton.1 hy]; decide
  have f7 := formL_le s7 (by omega)
  have g4 : (formL j4.list).length ≤ 100 := by rw [hl4]; simp at f1 ⊢; omega
  have c7 := froz (S := (JoO (x.mv p c o) q j4 ++ (dkL (q.mv u4) d4 ++ R)) ++ G) (fun y hy => Nat.le_trans (s7 y hy) (by unfold maxLen; omega)) cx
  refine FAppend_use (q := ((((q.mv u).mv u1).mv u2).mv u3).mv u4) (lp := some ⟨b5, 0, none⟩) (lc := 1) (l := [ByteArray.mk #[101]]) (S := R ++ G) (hi1.weak fun _ _ h => h.1) (hm4.weak fun _ _ h => h.1) hf4 (fun M w h => h.2) (by simp at f7 ⊢; omega) (j_in c7) fun u5 p c o d5 j5 w hm5 hf5 hl5 hb5 hk5 _ cx => ?_
  rw [hl4] at hl5
  refine ⟨0, rfl, JoO (x.mv p c o) q j5 ++ (dkL (q.mv u5) d5 ++ R), _, inferInstance, j_out cx, ?_⟩
  have hj0 : (j.list.length : Int) = 0 := by rw [hl]; rfl
  rw [hj0]
  refine Br.intro (fun _ => Br.intro (fun _ => Br.intro (fun _ => Br.intro (fun _ => Br.intro (fun _ => Br.intro (fun _ => Br.intro (fun _ => Br.intro (fun _ => ?_) (fun h => by cases h)) (fun h => by cases h)) (fun h => by cases h)) (fun h => by cases h)) (fun h => by cases h)) (fun h => by cases h)) (fun h => by cases h)) (fun h => by cases h)
  refine fun w G cx => JGet_use (q := q) (S := (dkL (q.mv u5) d5 ++ R) ++ G) hm5.sb cx fun w cx => ?_
  have e2 : getJ j5.list 2 = ByteArray.mk #[101] := by rw [hl5]; rfl
  have e3 : getJ j5.list 3 = ByteArray.mk #[] := by rw [hl5]; rfl
  rw [e2]
  refine ⟨_, rfl, JoO (x.mv p c o) q j5 ++ (dkL (q.mv u5) d5 ++ R), _, inferInstance, cx, Br.intro (fun _ => fun w G cx => ?_) (fun h => absurd rfl (of_decide_eq_false h))⟩
  refine JGet_use (q := q) (S := (dkL (q.mv u5) d5 ++ R) ++ G) hm5.sb cx fun w cx => ?_
  rw [e3]
  refine ⟨_, rfl, JoO (x.mv p c o) q j5 ++ (dkL (q.mv u5) d5 ++ R), _, inferInstance, cx, fun w G cx => ⟨?_, ?_⟩⟩
  · rw [decide_eq_true (rfl : ByteArray.mk #[] = ByteArray.mk #[])]
  · have c9 := Ctx.left cx
    exact (Ctx.right (S := JoO (x.mv p c o) q j5) c9 |> Ctx.right (S := dkL (q.mv u5) d5)).weak fun _ _ h => h.1.1
end
end Go.Proofs.YtfccagphnfceiaaDoor
end

/-
  Two journals on one disk; the checks of what comes in.
-/
section
set_option linter.unusedVariables false
set_option linter.unusedSimpArgs false
namespace Go.Proofs.YtfccagphnfceiaaDoor
open Go.Vc

def textsB (l : List ByteArray) : Bool := decide (∀ x ∈ l, x.size ≤ 200) && decide (l.length ≤ 8)
theorem textsB_yes {l : List ByteArray} (h : textsB l = true) : (∀ x ∈ l, x.size ≤ 200) ∧ l.length ≤ 8 := by
  unfold textsB at h
  rw [Bool.and_eq_true] at h
  exact ⟨of_decide_eq_true h.1, of_decide_eq_true h.2⟩
theorem texts_form {l : List ByteArray} (h : textsB l = true) : (formL l).length ≤ 1856 := by
  obtain ⟨h1, h2⟩ := textsB_yes h
  have := formL_le h1 (by omega)
  have h3 : l.length * (200 + 32) ≤ 8 * 232 := Nat.mul_le_mul h2 (by omega)
  omega
section
variable {W w : World} {S R G : List Own} {Φ : PW}
theorem texts_in [Stable Φ] {p : Option Addr} {c : Nat} {l : List ByteArray} (hsl : ∀ M w, Φ M w → Sl M w p l) (hl : l.length ≤ 9223372036854775807) : GivesIn Φ Tryd.prog F.erratalaw06_texts #[.slice p l.length c] (.bool (textsB l)) := by
  refine .there (fun M w h => (hsl M w h).there) fun ht => ?_
  refine gives_in (Berratalaw06_texts_run p l.length c) fun W R => ?_
  refine exI_mk (fun n R' Φ' k => ∃ i : Nat, n = i ∧ i + k = l.length ∧ R' = R ∧ Φ' = Φ ∧ ∀ x ∈ l.take i, x.size ≤ 200) ⟨⟨_, Φ, l.length, inferInstance, fun w G cx => cx, 0, rfl, by omega, rfl, rfl, by simp⟩, ?_⟩
  rintro n R1 Φ k _ ⟨i, rfl, hik, rfl, rfl, hall⟩
  refine Br.intro (fun hlt => ?_) (fun hge => fun w G cx => ⟨?_, cx.left⟩)
  · have hlt : i < l.length := by have := of_decide_eq_true hlt; omega
    obtain ⟨k, rfl⟩ : ∃ m, k = m + 1 := ⟨k - 1, by omega⟩
    obtain ⟨g, o, rfl⟩ := ht (by omega)
    refine ⟨⟨by omega, by omega⟩, ptrK_intro g o rfl fun w G cx => ⟨l[i], by rw [Int.toNat_natCast]; exact sl_str (hsl _ _ cx.phi) hlt, Br.intro (fun hbig => fun w G cx => ⟨?_, cx.left⟩) (fun hok => ⟨by unfold I64; omega, _, Φ, k, inferInstance, fun w G cx => cx, ⟨i + 1, by omega, by omega, rfl, rfl, fun x hx => ?_⟩, Nat.lt_succ_self _⟩)⟩⟩
    · have : textsB l = false := by
        unfold textsB
        rw [decide_eq_false fun h => by have h1 := h l[i] (List.getElem_mem hlt); have := of_decide_eq_true hbig; omega]; rfl
      rw [this]
    · rw [List.take_succ_eq_append_getElem hlt] at hx
      rcases List.mem_append.1 hx with hx | hx
      · exact hall x hx
      · rw [List.mem_singleton.1 hx]; have := of_decide_eq_false hok; omega
  · have hge : i = l.length := by have := of_decide_eq_false hge; omega
    subst hge
    rw [List.take_length] at hall
    unfold textsB
    rw [decide_eq_true hall, Bool.true_and]
    have : decide ((l.length : Int) ≤ 8) = decide (l.length ≤ 8) := decide_eq_decide.2 (by omega)
    rw [this]

/-- two journals on one disk, both working -/
structure TwoJ (Φ : PW) (q : DkP) (d : DsS) (x y : JoP) (j k : JouS) : Prop where
  mj : JM Φ q d x j
  mm : JM Φ q d y k
  fj : JF d j
  fk : JF d k
  bj : j.base = 0
  bk : k.base = 2
theorem TwoJ.weak {q : DkP} {d : DsS} {x y : JoP} {j k : JouS} (h : TwoJ Φ q d x y j k) {Ψ : PW} (e : ∀ M w, Ψ M w → Φ M w) : TwoJ Ψ q d x y j k := ⟨h.mj.weak e, h.mm.weak e, h.fj, h.fk, h.bj, h.bk⟩
end
end Go.Proofs.YtfccagphnfceiaaDoor
end

/-
  Operations on a journal; the calls, whatever fails: walked.
-/
section
set_option linter.unusedVariables false
set_option linter.unusedSimpArgs false
namespace Go.Proofs.YtfccagphnfceiaaDoor
open Go.Vc

structure OpJ where
  kind : Int
  L : List ByteArray
  n : Int
  keep : List Int
instance : Gv OpJ := Gv.via (β := Int × List ByteArray × Int × List Int) (fun x => (x.kind, x.L, x.n, x.keep)) (fun y => ⟨y.1, y.2.1, y.2.2.1, y.2.2.2⟩) (fun _ => rfl)
abbrev OpJ.cells (x : OpJ) (p : Option Addr) (c : Nat) (q : Option Addr) (e : Nat) : List Value := [.int .i64 x.kind, .slice p x.L.length c, .int .i64 x.n, .slice q x.keep.length e]
theorem opj_cells {M : List Nat} {w : World} {cs : List Value} {x : OpJ} (h : Gv.rep M w cs x) : ∃ p c q e, cs = x.cells p c q e ∧ I64 x.kind ∧ I64 x.n ∧ x.L.length ≤ 9223372036854775807 ∧ x.keep.length ≤ 9223372036854775807 ∧ x.L.length ≤ c ∧ Sl M w p x.L ∧ Sl M w q x.keep := by
  obtain ⟨c1, c2, rfl, ⟨rfl, h1⟩, h2⟩ := h
  obtain ⟨c3, c4, rfl, h3, h4⟩ := h2
  obtain ⟨c5, c6, rfl, ⟨rfl, h5⟩, h6⟩ := h4
  obtain ⟨p, c, rfl, g1, g2, g3⟩ := rep_list.1 h3
  obtain ⟨q, e, rfl, g4, g5, g6⟩ := rep_list.1 h6
  unfold maxLen at g2 g5
  have g1 : x.L.length ≤ c := g1
  have g4 : x.keep.length ≤ e := g4
  exact ⟨p, c, q, e, rfl, h1, h5, by omega, by omega, g1, g3, g6⟩
def fewB (l : List OpJ) : Bool := decide (∀ x ∈ l, textsB x.L = true ∧ x.keep.length ≤ 50) && decide (l.length ≤ 25)
theorem fewB_yes {l : List OpJ} (h : fewB l = true) : (∀ x ∈ l, textsB x.L = true ∧ x.keep.length ≤ 50) ∧ l.length ≤ 25 := by
  unfold fewB at h
  rw [Bool.and_eq_true] at h
  exact ⟨of_decide_eq_true h.1, of_decide_eq_true h.2⟩
/-- the cells of an operation at place j -/
theorem opj_pin {M : List Nat} {w : World} {b o : Nat} {cs : List (List Value)} {l : List OpJ} (h : Pin b o cs l M w) {j : Nat} (hj : j < l.length) : ∃ p c q e, cs.getD j [] = l[j].cells p c q e ∧ I64 l[j].kind ∧ I64 l[j].n ∧ l[j].L.length ≤ 9223372036854775807 ∧ l[j].keep.length ≤ 9223372036854775807 ∧ l[j].L.length ≤ c := by
  obtain ⟨p, c, q, e, h1, h2, h3, h4, h5, h6, _⟩ := opj_cells (h j hj).2.2
  exact ⟨p, c, q, e, h1, h2, h3, h4, h5, h6⟩
theorem opj_row {M : List Nat} {w : World} {b o : Nat} {cs : List (List Value)} {l : List OpJ} (h : Pin b o cs l M w) {j : Nat} (hj : j < l.length) {p : Option Addr} {c : Nat} {q : Option Addr} {e : Nat} (he : cs.getD j [] = l[j].cells p c q e) : RowAt w b (o + j * 4) (l[j].cells p c q e) := by
  have := (h j hj).2.1
  rw [he] at this
  exact this
theorem opj_sl {M : List Nat} {w : World} {b o : Nat} {cs : List (List Value)} {l : List OpJ} (h : Pin b o cs l M w) {j : Nat} (hj : j < l.length) {p : Option Addr} {c : Nat} {q : Option Addr} {e : Nat} (he : cs.getD j [] = l[j].cells p c q e) : Sl M w p l[j].L ∧ Sl M w q l[j].keep := by
  have := (h j hj).2.2
  rw [he] at this
  obtain ⟨p', c', q', e', h1, _, _, _, _, _, h2, h3⟩ := opj_cells this
  simp only [OpJ.cells, List.cons.injEq, Value.slice.injEq, and_true, true_and] at h1
  rw [h1.1.1, h1.2.1]
  exact ⟨h2, h3⟩
theorem opj_cell {w : World} {b o : Nat} {x : OpJ} {p : Option Addr} {c : Nat} {q : Option Addr} {e : Nat} (h : RowAt w b o (x.cells p c q e)) {i : Nat} {v : Value} (hv : (x.cells p c q e)[i]? = some v) : w.cell? ⟨b, o + i, none⟩ = some v := by
  obtain ⟨hi, he⟩ := List.getElem?_eq_some_iff.1 hv
  rw [h i hi, he]
section
variable {W w : World} {S R G : List Own} {Φ : PW}
theorem few_inJ [Stable Φ] {p : Option Addr} {cap : Nat} {l : List OpJ} {b o : Nat} {cs : List (List Value)} (hp : 0 < l.length → p = some ⟨b, o, none⟩) (hΦ : ∀ M w, Φ M w → Pin b o cs l M w) (hlen : l.length ≤ 9223372036854775807) : GivesIn Φ Tryd.prog F.erratalaw06_few #[.slice p l.length cap] (.bool (fewB l)) := by
  refine gives_in (Berratalaw06_few_run p l.length cap) fun W R => ?_
  refine exI_mk (fun n R' Φ' k => ∃ i : Nat, n = i ∧ i + k = l.length ∧ R' = R ∧ Φ' = Φ ∧ ∀ x ∈ l.take i, textsB x.L = true ∧ x.keep.length ≤ 50) ⟨⟨_, Φ, l.length, inferInstance, fun w G cx => cx, 0, rfl, by omega, rfl, rfl, by simp⟩, ?_⟩
  rintro n R1 Φ k _ ⟨i, rfl, hik, rfl, rfl, hall⟩
  refine Br.intro (fun hlt => ?_) (fun hge => fun w G cx => ⟨?_, cx.left⟩)
  · have hlt : i < l.length := by have := of_decide_eq_true hlt; omega
    obtain ⟨k, rfl⟩ : ∃ m, k = m + 1 := ⟨k - 1, by omega⟩
    have hp := hp (by omega)
    have bad : (¬ (textsB l[i].L = true ∧ l[i].keep.length ≤ 50)) → fewB l = false := fun h => by
      unfold fewB
      rw [decide_eq_false fun h2 => h (h2 _ (List.getElem_mem hlt))]; rfl
    refine ⟨⟨by omega, by omega⟩, ptrK_intro b o hp fun w G cx => ?_⟩
    obtain ⟨q, qc, r, rc, he, _, _, hl1, hl2, _⟩ := opj_pin (hΦ _ _ cx.phi) hlt
    refine ⟨q, l[i].L.length, qc, by rw [Int.toNat_natCast]; exact opj_cell (i := 1) (opj_row (hΦ _ _ cx.phi) hlt he) rfl, fun w G cx => (texts_in (fun M w h => (opj_sl (hΦ M w h) hlt he).1) hl1).use cx fun w cx => ⟨textsB l[i].L, rfl, R1, Φ, inferInstance, cx, Br.intro (fun hno => fun w G cx => ⟨?_, cx.left⟩) (fun hyes => ⟨⟨by omega, by omega⟩, ptrK_intro b o hp fun w G cx => ⟨r, l[i].keep.length, rc, by rw [Int.toNat_natCast]; exact opj_cell (i := 3) (opj_row (hΦ _ _ cx.phi) hlt he) rfl, Br.intro (fun hbig => fun w G cx => ⟨?_, cx.left⟩) (fun hok => ⟨by unfold I64; omega, _, Φ, k, inferInstance, fun w G cx => cx, ⟨i + 1, by omega, by omega, rfl, rfl, fun x hx => ?_⟩, Nat.lt_succ_self _⟩)⟩⟩)⟩⟩
    · rw [bad fun h => by rw [h.1] at hno; cases hno]
    · rw [bad fun h => by have := of_decide_eq_true hbig; omega]
    · rw [List.take_succ_eq_append_getElem hlt] at hx
      rcases List.mem_append.1 hx with hx | hx
      · exact hall x hx
      · rw [List.mem_singleton.1 hx]
        exact ⟨by simpa using hyes, by have := of_decide_eq_false hok; omega⟩
  · have hge : i = l.length := by have := of_decide_eq_false hge; omega
    subst hge
    rw [List.take_length] at hall
    unfold fewB
    rw [decide_eq_true hall, Bool.true_and]
    have : decide ((l.length : Int) ≤ 25) = decide (l.length ≤ 25) := decide_eq_decide.2 (by omega)
    rw [this]

theorem WAppend_use [Stable Φ] (hi : JI Φ) {q : DkP} {d : DsS} {x : JoP} {j : JouS} (hm : JM Φ q d x j) (hs : SI d j) {lp : Option Addr} {lc : Nat} {l : List ByteArray} (hsl : ∀ M w, Φ M w → Sl M w lp l) (hl : (formL l).length ≤ 1000000) (cx : Ctx W w (JoO x q j ++ (dkL q d ++ S)) Φ) {K : Ending → World → Prop}
    (hk : ∀ u p c o r w', r = appendS d j l → CallR d j (j.list ++ l) r → JM Φ (q.mv u) r.1 (x.mv p c o) r.2.1 → r.1.keep = d.keep → Ctx W w' (JoO (x.mv p c o) q r.2.1 ++ (dkL (q.mv u) r.1 ++ S)) Φ → K (.returned (.int .i64 r.2.2)) w') :
    Calls Tryd.prog F.journal_Journal_Append #[.pointer (some ⟨x.jb, 0, none⟩), .slice lp l.length lc] w K := by
  have h4 := formL_len (l := l) fun x hx => Nat.le_trans (formL_size hx) (by omega)
  have h5 := hs.len.1
  have h6 := hs.bytes
  refine Append_use hm.dq hm.kk hi.off hi.tab hm.sb hsl (by omega) (by omega) (by omega) cx fun u p c o w hsb hq cx => ?_
  have hkeep := appendS_keep d j l
  exact hk u p c o _ w rfl (append_call hs hm.dq.w) ⟨hq, hm.kk.of hkeep u, hsb⟩ hkeep cx
theorem WCut_use [Stable Φ] (hi : JI Φ) {q : DkP} {d : DsS} {x : JoP} {j : JouS} (hm : JM Φ q d x j) (hs : SI d j) {n : Int} (cx : Ctx W w (JoO x q j ++ (dkL q d ++ S)) Φ) {K : Ending → World → Prop}
    (hk : ∀ u p c o r w', r = cutS d j n → CallR d j (j.list.take n.toNat) r → JM Φ (q.mv u) r.1 (x.mv p c o) r.2.1 → r.1.keep = d.keep → Ctx W w' (JoO (x.mv p c o) q r.2.1 ++ (dkL (q.mv u) r.1 ++ S)) Φ → K (.returned (.int .i64 r.2.2)) w') :
    Calls Tryd.prog F.journal_Journal_Cut #[.pointer (some ⟨x.jb, 0, none⟩), .int .i64 n] w K := by
  have h6 := hs.most
  refine Cut_use hm.dq hm.kk hi.off hi.tab hm.sb (by omega) cx fun u p c o w hsb hq cx => ?_
  have hkeep := cutS_keep d j n
  exact hk u p c o _ w rfl (cut_call hs hm.dq.w) ⟨hq, hm.kk.of hkeep u, hsb⟩ hkeep cx
theorem WOpen_use [Stable Φ] (hi : JI Φ) {q : DkP} {d : DsS} (hq : DkQ q d) (hkk : DkK Φ q d) {b : Int} (hb : 0 ≤ b ∧ b ≤ 14) {P : List ByteArray → Prop} (hJ : JFut d b P) (cx : Ctx W w (dkL q d ++ S) Φ) {K : Ending → World → Prop}
    (hn : ∀ u d' e w', e = 9 ∨ e = 10 → d' = (openJ d b).1 → (DsH d → False) → DkQ (q.mv u) d' → d'.keep = d.keep → JFut d' b P → Ctx W w' (dkL (q.mv u) d' ++ S) Φ → K (.returned (.tuple #[.pointer none, .int .i64 e])) w')
    (hs : ∀ u x d' j w', d' = (openJ d b).1 → (DsH d → DsH d') → JM Φ (q.mv u) d' x j → Live d' j → j.broken = false → P j.list → j.base = b → d'.keep = d.keep → Ctx W w' (JoO x q j ++ (dkL (q.mv u) d' ++ S)) Φ → K (.returned (.tuple #[.pointer (some ⟨x.jb, 0, none⟩), .int .i64 0])) w') :
    Calls Tryd.prog F.journal_Open #[.pointer (some ⟨q.db, 0, none⟩), .int .i64 b] w K := by
  have ho := openJ_out hb hq.w hJ
  refine JOpen_use hq hkk hi.off hi.num cx (fun u d' e w hop hq' hkeep cx => ?_) (fun u x d' j w hop hsb hq' hkeep cx => ?_)
  · rcases ho.or with ⟨j, h1, _⟩ | ⟨_, h1, h2⟩
    · rw [hop] at h1; cases h1
    · have hf := ho.fine
      rw [hop] at h1 h2 hf
      exact hn u d' e w h1 (by rw [hop]) (fun h => by
        have h3 : e = 0 := (hf h).2
        have h1 : e = 9 ∨ e = 10 := h1
        omega) hq' hkeep h2 cx
  · rcases ho.or with ⟨j2, h1, _, h3, h4, h5, h6⟩ | ⟨h1, _⟩
    · have hf := ho.fine
      rw [hop] at h1 h3 hf
      cases h1
      exact hs u x d' j w (by rw [hop]) (fun h => (hf h).1) ⟨hq', hkk.of hkeep u, hsb⟩ h3 h6 h4 h5 hkeep cx
    · rw [hop] at h1; cases h1
end
end Go.Proofs.YtfccagphnfceiaaDoor
end

/-
  The conditions of the walks of some functions, one formula each; 'B<f>_run' says that they suffice. The formulas are printed by a program; the kernel compares them with the functions' code.
-/
section
namespace Go.Proofs.YtfccagphnfceiaaDoor
set_option linter.unusedVariables false
set_option linter.unusedSimpArgs false
set_option maxRecDepth 100000
open Go.Vc

end Go.Proofs.YtfccagphnfceiaaDoor
end

/-
  The law of appending and cutting: walked.
-/
section
set_option linter.unusedVariables false
set_option linter.unusedSimpArgs false
namespace Go.Proofs.YtfccagphnfceiaaDoor
open Go.Vc

section
variable {W w : World} {S R G : List Own} {Φ : PW}
theorem w_out [Stable Φ] {o : Own} {A B X S G : List Own} (cx : Ctx W w (o :: ((A ++ (B ++ (X ++ S))) ++ G)) Φ) : Ctx W w ((A ++ (B ++ (X ++ (o :: S)))) ++ G) Φ := by
  have e1 : (A ++ (B ++ (X ++ S))) ++ G = (A ++ B ++ X) ++ (S ++ G) := by simp only [List.append_assoc]
  have e2 : (A ++ (B ++ (X ++ (o :: S)))) ++ G = (A ++ B ++ X) ++ (o :: (S ++ G)) := by simp only [List.append_assoc, List.cons_append]
  rw [e1] at cx
  rw [e2]
  exact cx.perm List.perm_middle.symm
theorem w_in [Stable Φ] {o : Own} {A B X S G : List Own} (cx : Ctx W w ((A ++ (B ++ (X ++ (o :: S)))) ++ G) Φ) : Ctx W w (o :: ((A ++ (B ++ (X ++ S))) ++ G)) Φ := by
  have e1 : (A ++ (B ++ (X ++ S))) ++ G = (A ++ B ++ X) ++ (S ++ G) := by simp only [List.append_assoc]
  have e2 : (A ++ (B ++ (X ++ (o :: S)))) ++ G = (A ++ B ++ X) ++ (o :: (S ++ G)) := by simp only [List.append_assoc, List.cons_append]
  rw [e2] at cx
  rw [e1]
  exact cx.perm List.perm_middle
end
end Go.Proofs.YtfccagphnfceiaaDoor
end

/-
  The law that what was appended stays: walked.
-/
section
set_option linter.unusedVariables false
set_option linter.unusedSimpArgs false
namespace Go.Proofs.YtfccagphnfceiaaDoor
open Go.Vc

/-- a journal that may be there -/
abbrev oO (q : DkP) (jo : Option (JoP × JouS)) : List Own := match jo with
  | none => []
  | some (x, j) => JoO x q j
abbrev oP (jo : Option (JoP × JouS)) : Option Addr := match jo with
  | none => none
  | some (x, _) => some ⟨x.jb, 0, none⟩
/-- what holds of it on a disk where no crash is scheduled -/
structure StayI (q : DkP) (d : DsS) (jo : Option (JoP × JouS)) : Prop where
  dq : DkQ q d
  arm : d.armed = 0
  keep : d.keep = []
  fut : JFut d 0 fun _ => True
  jou : ∀ x j, jo = some (x, j) → SI d j ∧ j.base = 0 ∧ SB x.p x.cap j.list x.o
theorem call_fut {d : DsS} {j : JouS} {want : List ByteArray} {r : DsS × JouS × Int} (h : CallR d j want r) (hf : JFut d j.base fun _ => True) : JFut r.1 j.base fun _ => True := by
  rcases h.or with ⟨h1, _⟩ | ⟨_, _, _, h4⟩ | ⟨_, _, _, h4⟩
  · rw [h1]; exact hf
  · have := h4.fut (P := fun _ => True) trivial
    rw [h.base] at this
    exact this
  · exact h4.mono fun _ _ => trivial
section
variable {W w : World} {S R G : List Own} {Φ : PW}
theorem o_in [Stable Φ] {A X S G : List Own} (cx : Ctx W w ((A ++ (X ++ S)) ++ G) Φ) : Ctx W w (X ++ (A ++ (S ++ G))) Φ := jd_in cx
theorem o_drop [Stable Φ] {A X S G : List Own} (cx : Ctx W w (X ++ (A ++ (S ++ G))) Φ) : Ctx W w ((X ++ S) ++ G) Φ := by
  rw [List.append_assoc]
  exact cx.sub ((List.Sublist.refl _).append (List.sublist_append_right _ _))
theorem b_out [Stable Φ] {o : Own} {A X S G : List Own} (cx : Ctx W w (o :: ((A ++ (X ++ S)) ++ G)) Φ) : Ctx W w ((A ++ (X ++ (o :: S))) ++ G) Φ := w_out (A := A) (B := []) (X := X) (S := S) (G := G) cx
theorem b_in [Stable Φ] {o : Own} {A X S G : List Own} (cx : Ctx W w ((A ++ (X ++ (o :: S))) ++ G) Φ) : Ctx W w (o :: ((A ++ (X ++ S)) ++ G)) Φ := w_in (A := A) (B := []) (X := X) (S := S) (G := G) cx
theorem b_end [Stable Φ] {A X S G : List Own} (cx : Ctx W w ((A ++ (X ++ S)) ++ G) Φ) : Ctx W w S Φ := Ctx.right (S := X) (Ctx.right (S := A) (Ctx.left cx))
theorem lose_files (d : DsS) (n : Int) : (loseS d n).files = d.files := rfl
theorem start_files (d : DsS) : (startS d).files = d.files := rfl

theorem run_append0 {P : Program} {ts ty t : TypeId} {i : TypeInfo} (ht : P.underlying ts = some (.slice t)) (hi : P.info? t = some i) {p : Option Addr} {n cap : Nat} (hn : n ≤ cap) (q : Option Addr) (c2 : Nat) (w : World) :
    (Builtin.append_ #[ts, ts] ty #[.slice p n cap, .slice q 0 c2]).run P w = .ok (.slice p n cap) w := by
  have hf : (Builtin.firstCells i.size 0 (.slice q 0 c2)).run P w = .ok #[] w := by
    cases q <;> simp [Builtin.firstCells, loadCells, loadCellsFrom]
  simp [Builtin.append_, run_underlying ht, sizeOf, typeInfo, hi, Builtin.lenOf, hn, hf, Result.andThen]
  cases p <;> simp [storeCells, Result.andThen]
/-- append(l, l2...) where l stands in a block of its own -/
theorem SB.appAny [Stable Φ] {p : Option Addr} {cap : Nat} {l : List ByteArray} {o : Own} (h : SB p cap l o) (hcap : l.length ≤ cap) (cx : Ctx W w (o :: S) Φ) {q : Option Addr} {c2 : Nat} {l2 : List ByteArray} (hsl : ∀ M w, Φ M w → Sl M w q l2) (hlen : l.length + l2.length < 100000000) :
    ∃ p' cap' w' o', Sem.run Tryd.prog (builtin Builtin.append #[36, 36] 36 #[false, false] #[.slice p l.length cap, .slice q l2.length c2]) w = .ok (.value (.slice p' (l ++ l2).length cap')) w' ∧ SB p' cap' (l ++ l2) o' ∧ Ctx W w' (o' :: S) Φ := by
  by_cases h0 : l2 = []
  · subst h0
    obtain ⟨i, z, e1, e2, e3, e4, e5, e6⟩ := appB_out (P := Tryd.prog) (ts := 36) (t := 9) (size := 1) (bytes := 16) (by kernel_rfl)
    refine ⟨p, cap, w, o, ?_, by rw [List.append_nil]; exact h, cx⟩
    rw [List.append_nil]
    exact run_app (run_append0 e1 e2 hcap q c2 w)
  · obtain ⟨p', cap', w', o', hr, hsb, c'⟩ := h.app (c2 := c2) cx hsl (List.length_pos_iff.2 h0) hlen
    rw [← List.length_append] at hr
    exact ⟨p', cap', w', o', hr, hsb, c'⟩
theorem SB.freeze [Stable Φ] {p : Option Addr} {cap : Nat} {l : List ByteArray} {o : Own} (h : SB p cap l o) (hs : ∀ x ∈ l, x.size ≤ maxLen) (cx : Ctx W w (o :: S) Φ) : Ctx W w S (fun M w => Φ M w ∧ Sl M w p l) := by
  cases h with
  | buf =>
    obtain ⟨c7, s7, _⟩ := cx.freeze (elems_strJ hs)
    exact c7.add s7
  | cut g l cs => exact cx.drop1.add (park_str cx.park.phi.2 hs)
theorem crash_lost (d : DsS) (l : List Int) : (crashS d l).lost = d.lost := by
  unfold crashS; split <;> rfl
/-- a crash, and what is opened then, with nothing lost -/
theorem reopen_use [Stable Φ] (hi : JI Φ) {q : DkP} {d : DsS} {x : JoP} {j : JouS} {u : DkU} (hq : DkQ (q.mv u) d) (hkk : ∀ (u : DkU) {d' : DsS}, d'.keep = [] → DkK Φ (q.mv u) d') (harm : d.armed = 0) (hlost : d.lost = 0) (hkeep : d.keep = []) (hlv : Live d j) (hb : j.base = 0) {p : Option Addr} {cap : Nat} {keep : List Int} (hl : keep.length ≤ 50) (hsl : ∀ M w, Φ M w → Sl M w p keep)
    (cx : Ctx W w ((JoO x q j ++ (dkL (q.mv u) d ++ R)) ++ G) Φ) {K : Option Addr → Int → List Own → PW → Prop}
    (hk : ∀ u' d' x' j', DkQ (q.mv u') d' → d'.armed = 0 → d'.lost = 0 → d'.keep = [] → Live d' j' → j'.broken = false → j'.base = 0 → j'.list = j.list → SB x'.p x'.cap j'.list x'.o → K (some ⟨x'.jb, 0, none⟩) 0 (JoO x' q j' ++ (dkL (q.mv u') d' ++ R)) Φ) :
    Calls Tryd.prog F.disk_Disk_Crash #[.pointer (some ⟨q.db, 0, none⟩), .slice p keep.length cap] w fun e w' => e = .returned (.tuple #[]) ∧ ∃ R1 Φ1, Stable Φ1 ∧ Ctx W w' (R1 ++ G) Φ1 ∧ ∀ w G, Ctx W w (R1 ++ G) Φ1 →
      Calls Tryd.prog F.disk_Disk_Start #[.pointer (some ⟨q.db, 0, none⟩)] w fun e w' => e = .returned (.tuple #[]) ∧ ∃ R2 Φ2, Stable Φ2 ∧ Ctx W w' (R2 ++ G) Φ2 ∧ ∀ w G, Ctx W w (R2 ++ G) Φ2 →
        Calls Tryd.prog F.journal_Open #[.pointer (some ⟨q.db, 0, none⟩), .int .i64 0] w fun e w' => ∃ p n, e = .returned (.tuple #[.pointer p, .int .i64 n]) ∧ ∃ R3 Φ3, Stable Φ3 ∧ Ctx W w' (R3 ++ G) Φ3 ∧ K p n R3 Φ3 := by
  refine Crash_use (q := q.mv u) (S := JoO x q j ++ (R ++ G)) hq (by omega) hsl (o_in cx) fun u2 w hq1 cx => ⟨rfl, dkL (q.mv u2) (crashS d keep) ++ R, Φ, inferInstance, o_drop cx, fun w G cx => ?_⟩
  refine Start_use (q := q.mv u2) (S := R ++ G) hq1 (cx.re (List.append_assoc _ _ _)) fun w hq2 cx => ⟨rfl, dkL (q.mv u2) (startS (crashS d keep)) ++ R, Φ, inferInstance, cx.re (List.append_assoc _ _ _).symm, fun w G cx => ?_⟩
  have hkc : (startS (crashS d keep)).keep = [] := (crash_keep d _).trans hkeep
  have hH : DsH (startS (crashS d keep)) := ⟨rfl, crash_arm harm _, (crash_lost d _).trans hlost⟩
  have hf : JFut d 0 fun l => l = j.list := by
    have := hlv.fut (P := fun l => l = j.list) rfl
    rw [hb] at this
    exact this
  have hfc : JFut (startS (crashS d keep)) 0 fun l => l = j.list := (hf.ev (crash_ev hq.w _ _) (crash_ev hq.w _ _)).frame (start_files _)
  refine WOpen_use (q := q.mv u2) (S := R ++ G) hi hq2 (hkk u2 hkc) ⟨by decide, by decide⟩ hfc (cx.re (List.append_assoc _ _ _)) (fun u3 d3 e w he' hd' hno hq3 hk3 hf3 cx => absurd hH hno) (fun u3 x3 d3 j3 w hd' hfine hm hlv3 hbr hP hb3 hk3 cx => ?_)
  have hH3 := hfine hH
  exact ⟨_, _, rfl, JoO x3 q j3 ++ (dkL (q.mv u3) d3 ++ R), Φ, inferInstance, j_out cx, hk u3 d3 x3 j3 hm.dq hH3.2.1 hH3.2.2 (hk3.trans hkc) hlv3 hbr hb3 hP hm.sb⟩
set_option maxHeartbeats 2000000 in
theorem stays_pin [Stable Φ] (hi0 : JI Φ) {lp sp op tp : Option Addr} {lc sc oc tc : Nat} {l : List OpJ} {s : List ByteArray} {one two : List Int} {b o : Nat} {cs : List (List Value)} (hlp : 0 < l.length → lp = some ⟨b, o, none⟩) (hpin : ∀ M w, Φ M w → Pin b o cs l M w)
    (hs : ∀ M w, Φ M w → Sl M w sp s) (h1 : ∀ M w, Φ M w → Sl M w op one) (h2 : ∀ M w, Φ M w → Sl M w tp two) (hll : l.length ≤ 9223372036854775807) (hsl : s.length ≤ 9223372036854775807) :
    GivesIn Φ Tryd.prog F.erratalaw06_JournalStays #[.slice lp l.length lc, .slice sp s.length sc, .slice op one.length oc, .slice tp two.length tc] (.bool true) := by
  refine gives_in (Berratalaw06_JournalStays_run lp l.length lc sp s.length sc op one.length oc tp two.length tc) fun W R => fun w G cx => (small_in hi0).use cx fun w cx => ⟨true, rfl, R, Φ, inferInstance, cx, fun w G cx => (few_inJ hlp hpin hll).use cx fun w cx => ⟨fewB l, rfl, R, Φ, inferInstance, cx, Br.intro (fun h => fun w G cx => ⟨rfl, cx.left⟩) (fun hfew => fun w G cx => (texts_in hs hsl).use cx fun w cx => ⟨textsB s, rfl, R, Φ, inferInstance, cx, Br.intro (fun h => fun w G cx => ⟨rfl, cx.left⟩) (fun hts => Br.intro (fun h => fun w G cx => ⟨rfl, cx.left⟩) (fun ho50 => Br.intro (fun h => fun w G cx => ⟨rfl, cx.left⟩) (fun ht50 => fun w G cx => DNew_use cx fun q w hq cx => ?_)))⟩)⟩⟩
  have hfew := fewB_yes (by simpa using hfew)
  have hts : textsB s = true := by simpa using hts
  have ho50 : one.length ≤ 50 := by have := of_decide_eq_false ho50; omega
  have ht50 : two.length ≤ 50 := by have := of_decide_eq_false ht50; omega
  have fs := texts_form hts
  have hi : JI (fun M w => Φ M w ∧ dkF q dsNew M w) := hi0.weak fun _ _ h => h.1
  have hkk : DkK (fun M w => Φ M w ∧ dkF q dsNew M w) q dsNew := ⟨Nat.zero_le _, fun M w h => h.2⟩
  refine ⟨_, rfl, dkL q dsNew ++ R, fun M w => Φ M w ∧ dkF q dsNew M w, inferInstance, cx.re (List.append_assoc _ _ _).symm, Br.intro (fun h => by cases h) (fun _ => fun w G cx => ?_)⟩
  obtain ⟨Ψ, hΨ⟩ : ∃ Ψ : PW, (fun M w => Φ M w ∧ dkF q dsNew M w) = Ψ := ⟨_, rfl⟩
  have stΨ : Stable Ψ := by rw [← hΨ]; infer_instance
  have hΦ : ∀ M w, Ψ M w → Φ M w := by rw [← hΨ]; exact fun _ _ h => h.1
  rw [hΨ] at hi hkk cx
  clear hΨ
  have hpin : ∀ M w, Ψ M w → Pin b o cs l M w := fun M w h => hpin M w (hΦ M w h)
  have hs : ∀ M w, Ψ M w → Sl M w sp s := fun M w h => hs M w (hΦ M w h)
  have h1 : ∀ M w, Ψ M w → Sl M w op one := fun M w h => h1 M w (hΦ M w h)
  have h2 : ∀ M w, Ψ M w → Sl M w tp two := fun M w h => h2 M w (hΦ M w h)
  have kkof : ∀ (u : DkU) {d : DsS}, d.keep = [] → DkK Ψ (q.mv u) d := fun u {d} h => hkk.of h u
  -- the journal is opened
  refine (WOpen_use hi hq hkk ⟨by decide, by decide⟩ (P := fun _ => True) ((new_fut 0).mono fun _ _ => trivial) (cx.re (List.append_assoc _ _ _)) (K := fun e w' => ∃ jo n u d', e = .returned (.tuple #[.pointer (oP jo), .int .i64 n]) ∧ StayI (q.mv u) d' jo ∧ Ctx W w' ((oO q jo ++ (dkL (q.mv u) d' ++ R)) ++ G) Ψ) (fun u d' e w he hd' _ hq' hkeep hf cx => ⟨none, e, u, d', rfl, ⟨hq', by rw [hd']; exact open_arm rfl 0, hkeep, hf, fun x j h => (by cases h)⟩, cx.re (List.append_assoc _ _ _).symm⟩)
    (fun u x d' j w hd' _ hm hlv hbr _ hb hkeep cx => ⟨some (x, j), 0, u, d', rfl, ⟨hm.dq, by rw [hd']; exact open_arm rfl 0, hkeep, by have := hlv.fut (P := fun _ => True) trivial; rw [hb] at this; exact this, fun x' j' h => (by cases h; exact ⟨.of_live hlv, hb, hm.sb⟩)⟩, j_out cx⟩)).mono fun e w ⟨jo, n0, u, d, he, hI, cx⟩ => ?_
  subst he
  refine ⟨_, n0, rfl, oO q jo ++ (dkL (q.mv u) d ++ R), Ψ, inferInstance, cx, ?_⟩
  clear hq cx
  refine exI_mk (fun p n R' Φ' k => ∃ (i : Nat) (u : DkU) (d : DsS) (jo : Option (JoP × JouS)), p = oP jo ∧ n = i ∧ i + k = l.length ∧ R' = oO q jo ++ (dkL (q.mv u) d ++ R) ∧ Φ' = Ψ ∧ StayI (q.mv u) d jo) ⟨⟨_, Ψ, l.length, inferInstance, fun w G cx => cx, 0, u, d, jo, rfl, rfl, by omega, rfl, rfl, hI⟩, ?_⟩
  clear hI
  rintro p n R1 Ψ k st ⟨i, u, d, jo, rfl, rfl, hik, rfl, rfl, hI⟩
  refine Br.intro (fun hlt => ?_) (fun hge => ?_)
  · have hlt : i < l.length := by have := of_decide_eq_true hlt; omega
    obtain ⟨k, rfl⟩ : ∃ m, k = m + 1 := ⟨k - 1, by omega⟩
    have hlp := hlp (by omega)
    have hli := hfew.1 _ (List.getElem_mem hlt)
    have fl := texts_form hli.1
    refine ⟨⟨by omega, by omega⟩, ptrK_intro b o hlp fun w G cx => ?_⟩
    obtain ⟨p1, c1, q1, e1, he, hk64, hn64, hL, hK, _⟩ := opj_pin (hpin _ _ cx.phi) hlt
    have row : ∀ {w : World} {G : List Own}, Ctx W w ((oO q jo ++ (dkL (q.mv u) d ++ R)) ++ G) Ψ → RowAt w b (o + i * 4) (l[i].cells p1 c1 q1 e1) := fun cx => opj_row (hpin _ _ cx.phi) hlt he
    have hsl1 : ∀ M w, Ψ M w → Sl M w p1 l[i].L := fun M w h => (opj_sl (hpin M w h) hlt he).1
    have hsl2 : ∀ M w, Ψ M w → Sl M w q1 l[i].keep := fun M w h => (opj_sl (hpin M w h) hlt he).2
    rw [Int.toNat_natCast]
    have hI64 : I64 ((i : Int) + 1) := by unfold I64; omega
    refine ⟨l[i].kind, opj_cell (i := 0) (row cx) rfl, Br.intro (fun _ => ?_) (fun _ => Br.intro (fun _ => ?_) (fun _ => Br.intro (fun _ => ?_) (fun _ => Br.intro (fun _ => ?_) (fun _ => ?_))))⟩
    · -- Append
      cases jo with
      | none => exact Br.intro (fun h => by cases h) (fun _ => ⟨hI64, _, Ψ, k, inferInstance, fun w G cx => cx, ⟨i + 1, u, d, none, rfl, by omega, by omega, rfl, rfl, hI⟩, Nat.lt_succ_self _⟩)
      | some xj =>
        obtain ⟨x, j⟩ := xj
        obtain ⟨si, hb, sb⟩ := hI.jou x j rfl
        refine Br.intro (fun _ => ⟨⟨by omega, by omega⟩, ptrK_intro b o hlp fun w G cx => ⟨p1, l[i].L.length, c1, opj_cell (i := 1) (row cx) rfl, fun w G cx => ?_⟩⟩) (fun h => by cases h)
        refine WAppend_use (q := q.mv u) (S := R ++ G) hi ⟨hI.dq, kkof u hI.keep, sb⟩ si hsl1 (by omega) (j_in cx) fun u2 p c o2 r w hr hC hm hk cx => ⟨r.2.2, rfl, JoO (x.mv p c o2) q r.2.1 ++ (dkL (q.mv u2) r.1 ++ R), Ψ, inferInstance, j_out cx, hI64, _, Ψ, k, inferInstance, fun w G cx => cx, ⟨i + 1, u2, r.1, some (x.mv p c o2, r.2.1), rfl, by omega, by omega, rfl, rfl, ⟨hm.dq, by rw [hr]; exact append_arm hI.arm _ _, hk.trans hI.keep, ?_, fun x' j' h => ?_⟩⟩, Nat.lt_succ_self _⟩
        · have := call_fut hC (by rw [hb]; exact hI.fut)
          rw [hb] at this
          exact this
        · cases h
          exact ⟨hC.si, hC.base.trans hb, hm.sb⟩
    · -- Cut
      cases jo with
      | none => exact Br.intro (fun h => by cases h) (fun _ => ⟨hI64, _, Ψ, k, inferInstance, fun w G cx => cx, ⟨i + 1, u, d, none, rfl, by omega, by omega, rfl, rfl, hI⟩, Nat.lt_succ_self _⟩)
      | some xj =>
        obtain ⟨x, j⟩ := xj
        obtain ⟨si, hb, sb⟩ := hI.jou x j rfl
        refine Br.intro (fun _ => ⟨⟨by omega, by omega⟩, ptrK_intro b o hlp fun w G cx => ⟨l[i].n, opj_cell (i := 2) (row cx) rfl, fun w G cx => ?_⟩⟩) (fun h => by cases h)
        refine WCut_use (q := q.mv u) (S := R ++ G) hi ⟨hI.dq, kkof u hI.keep, sb⟩ si (j_in cx) fun u2 p c o2 r w hr hC hm hk cx => ⟨r.2.2, rfl, JoO (x.mv p c o2) q r.2.1 ++ (dkL (q.mv u2) r.1 ++ R), Ψ, inferInstance, j_out cx, hI64, _, Ψ, k, inferInstance, fun w G cx => cx, ⟨i + 1, u2, r.1, some (x.mv p c o2, r.2.1), rfl, by omega, by omega, rfl, rfl, ⟨hm.dq, by rw [hr]; exact cut_arm hI.arm _ _, hk.trans hI.keep, ?_, fun x' j' h => ?_⟩⟩, Nat.lt_succ_self _⟩
        · have := call_fut hC (by rw [hb]; exact hI.fut)
          rw [hb] at this
          exact this
        · cases h
          exact ⟨hC.si, hC.base.trans hb, hm.sb⟩
    · -- Lose
      refine ⟨⟨by omega, by omega⟩, ptrK_intro b o hlp fun w G cx => ⟨l[i].n, opj_cell (i := 2) (row cx) rfl, fun w G cx => ?_⟩⟩
      refine Lose_use (q := q.mv u) (S := oO q jo ++ (R ++ G)) hI.dq hn64 (o_in cx) fun w hq1 cx => ⟨rfl, oO q jo ++ (dkL (q.mv u) (loseS d l[i].n) ++ R), Ψ, inferInstance, jd_out cx, hI64, _, Ψ, k, inferInstance, fun w G cx => cx, ⟨i + 1, u, _, jo, rfl, by omega, by omega, rfl, rfl, ⟨hq1, hI.arm, hI.keep, hI.fut.frame (lose_files d _), fun x j h => ?_⟩⟩, Nat.lt_succ_self _⟩
      obtain ⟨a1, a2, a3⟩ := hI.jou x j h
      exact ⟨a1.frame (lose_files d _), a2, a3⟩
    · -- Crash
      refine ⟨⟨by omega, by omega⟩, ptrK_intro b o hlp fun w G cx => ⟨q1, l[i].keep.length, e1, opj_cell (i := 3) (row cx) rfl, fun w G cx => ?_⟩⟩
      refine Crash_use (q := q.mv u) (S := oO q jo ++ (R ++ G)) hI.dq (by omega) hsl2 (o_in cx) fun u2 w hq1 cx => ⟨rfl, dkL (q.mv u2) (crashS d l[i].keep) ++ R, Ψ, inferInstance, o_drop cx, fun w G cx => ?_⟩
      refine Start_use (q := q.mv u2) (S := R ++ G) hq1 (cx.re (List.append_assoc _ _ _)) fun w hq2 cx => ⟨rfl, dkL (q.mv u2) (startS (crashS d l[i].keep)) ++ R, Ψ, inferInstance, cx.re (List.append_assoc _ _ _).symm, fun w G cx => ?_⟩
      have hkc : (startS (crashS d l[i].keep)).keep = [] := (crash_keep d _).trans hI.keep
      have hac : (startS (crashS d l[i].keep)).armed = 0 := crash_arm hI.arm _
      have hfc : JFut (startS (crashS d l[i].keep)) 0 fun _ => True := (hI.fut.ev (crash_ev hI.dq.w _ _) (crash_ev hI.dq.w _ _)).frame (start_files _)
      refine WOpen_use (q := q.mv u2) (S := R ++ G) hi hq2 (kkof u2 hkc) ⟨by decide, by decide⟩ hfc (cx.re (List.append_assoc _ _ _)) (fun u3 d3 e w he' hd' _ hq3 hk3 hf3 cx => ?_) (fun u3 x d3 j w hd' _ hm hlv hbr _ hb hk3 cx => ?_)
      · exact ⟨_, _, rfl, oO q none ++ (dkL (q.mv u3) d3 ++ R), Ψ, inferInstance, cx.re (List.append_assoc _ _ _).symm, hI64, _, Ψ, k, inferInstance, fun w G cx => cx, ⟨i + 1, u3, d3, none, rfl, by omega, by omega, rfl, rfl, ⟨hq3, by rw [hd']; exact open_arm hac 0, hk3.trans hkc, hf3, fun x j h => (by cases h)⟩⟩, Nat.lt_succ_self _⟩
      · refine ⟨_, _, rfl, oO q (some (x, j)) ++ (dkL (q.mv u3) d3 ++ R), Ψ, inferInstance, j_out cx, hI64, _, Ψ, k, inferInstance, fun w G cx => cx, ⟨i + 1, u3, d3, some (x, j), rfl, by omega, by omega, rfl, rfl, ⟨hm.dq, by rw [hd']; exact open_arm hac 0, hk3.trans hkc, ?_, fun x' j' h => (by cases h; exact ⟨.of_live hlv, hb, hm.sb⟩)⟩⟩, Nat.lt_succ_self _⟩
        have := hlv.fut (P := fun _ => True) trivial
        rw [hb] at this
        exact this
    · exact ⟨hI64, _, Ψ, k, inferInstance, fun w G cx => cx, ⟨i + 1, u, d, jo, rfl, by omega, by omega, rfl, rfl, hI⟩, Nat.lt_succ_self _⟩
  · clear hik
    cases jo with
    | none => exact Br.intro (fun _ => fun w G cx => ⟨rfl, (Ctx.right (S := dkL (q.mv u) d) (Ctx.left (S := dkL (q.mv u) d ++ R) cx)).weak hΦ⟩) (fun h => by cases h)
    | some xj =>
      obtain ⟨x, j⟩ := xj
      obtain ⟨si, hb, sb⟩ := hI.jou x j rfl
      have hjs := si.len
      refine Br.intro (fun h => by cases h) (fun _ => fun w G cx => ?_)
      refine All_use (q := q) (S := (dkL (q.mv u) d ++ R) ++ G) sb (by omega) (cx.re (List.append_assoc _ _ _)) fun g1 w cx => ?_
      have cx : Ctx W w (.blk g1 (strC j.list) 9 :: ((JoO x q j ++ (dkL (q.mv u) d ++ R)) ++ G)) Ψ := cx.re (congrArg (_ :: ·) (List.append_assoc _ _ _).symm)
      refine ⟨_, _, _, rfl, JoO x q j ++ (dkL (q.mv u) d ++ (.blk g1 (strC j.list) 9 :: R)), Ψ, inferInstance, b_out cx, fun w G cx => ?_⟩
      refine WAppend_use (q := q.mv u) (S := (.blk g1 (strC j.list) 9 :: R) ++ G) hi ⟨hI.dq, kkof u hI.keep, sb⟩ si hs (by omega) (j_in cx) fun u2 p c o2 r w hr hC hm hk cx => ?_
      refine ⟨r.2.2, rfl, JoO (x.mv p c o2) q r.2.1 ++ (dkL (q.mv u2) r.1 ++ (.blk g1 (strC j.list) 9 :: R)), Ψ, inferInstance, j_out cx, Br.intro (fun hbad => Br.intro (fun _ => fun w G cx => ?_) (fun h => by cases h)) (fun hok => fun w G cx => ?_)⟩
      · have hbad := of_decide_eq_true hbad
        have hlist : r.2.1.list = j.list := by
          rcases hC.or with ⟨_, h, _⟩ | ⟨h, _⟩ | ⟨_, _, h, _⟩
          · rw [h]
          · exact absurd h hbad
          · exact h
        have c1 := froz (S := (JoO (x.mv p c o2) q r.2.1 ++ (dkL (q.mv u2) r.1 ++ R)) ++ G) hjs.2 (b_in cx)
        refine All_use (Φ := fun M w => Ψ M w ∧ Sl M w (some ⟨g1, 0, none⟩) j.list) (q := q) (S := (dkL (q.mv u2) r.1 ++ R) ++ G) hm.sb (by rw [hlist]; omega) (c1.re (List.append_assoc _ _ _)) fun g2 w cx => ?_
        have c2 := froz (S := (JoO (x.mv p c o2) q r.2.1 ++ (dkL (q.mv u2) r.1 ++ R)) ++ G) (by rw [hlist]; exact hjs.2) (cx.re (congrArg (_ :: ·) (List.append_assoc _ _ _).symm))
        refine ⟨_, _, _, rfl, JoO (x.mv p c o2) q r.2.1 ++ (dkL (q.mv u2) r.1 ++ R), _, inferInstance, c2, fun w G cx => ?_⟩
        refine (Same_in (fun M w h => h.2) (fun M w h => h.1.2) (by rw [hlist]; omega)).use cx fun w cx => ?_
        rw [decide_eq_true hlist]
        exact ⟨true, rfl, JoO (x.mv p c o2) q r.2.1 ++ (dkL (q.mv u2) r.1 ++ R), _, inferInstance, cx, fun w G cx => ⟨rfl, (b_end cx).weak fun M w h => hΦ M w h.1.1⟩⟩
      have hok : r.2.2 = 0 := Decidable.not_not.1 (of_decide_eq_false hok)
      obtain ⟨hlv, hbr, hlist⟩ : Live r.1 r.2.1 ∧ r.2.1.broken = false ∧ r.2.1.list = j.list ++ s := by
        rcases hC.or with ⟨h1, h2, _, _, h3⟩ | ⟨_, h1, h2, h3⟩ | ⟨h, _⟩
        · obtain ⟨h4, h5⟩ := h3 hok
          have h6 : r.2.1.broken = false := by rw [h2]; exact h5
          exact ⟨hC.si.live h6, h6, by rw [h2, h4]⟩
        · exact ⟨h3, h1, h2⟩
        · omega
      have hbase : r.2.1.base = 0 := hC.base.trans hb
      have harm : r.1.armed = 0 := by rw [hr]; exact append_arm hI.arm _ _
      have hkeep := hk.trans hI.keep
      have hls := hfew.2
      have lsl := formL_len (l := s) fun x hx => Nat.le_trans (formL_size hx) (by omega)
      have hsb0 := SB.cut g1 j.list []
      rw [List.append_nil] at hsb0
      obtain ⟨p5, c5, w5, o5, hr5, hsb5, cx5⟩ := hsb0.appAny (Nat.le_refl _) (c2 := sc) (S := (JoO (x.mv p c o2) q r.2.1 ++ (dkL (q.mv u2) r.1 ++ R)) ++ G) (b_in cx) hs (by omega)
      rw [← hlist] at hr5 hsb5
      obtain ⟨ws, hws⟩ : ∃ ws, r.2.1.list = ws := ⟨_, rfl⟩
      have hwsz : ∀ x ∈ ws, x.size ≤ maxLen := by rw [← hws]; exact hC.si.len.2
      have hwl : ws.length ≤ 1048576 := by rw [← hws]; exact hC.si.len.1
      rw [hws] at hr5 hsb5
      have cx6 := hsb5.freeze hwsz cx5
      refine ⟨p5, _, c5, w5, hr5, JoO (x.mv p c o2) q r.2.1 ++ (dkL (q.mv u2) r.1 ++ R), fun M w => Ψ M w ∧ Sl M w p5 ws, inferInstance, cx6, fun w G cx => ?_⟩
      have hq2 := hm.dq
      have hsbr := hm.sb
      generalize r.2.1 = j2 at hlv hbr hlist hbase hws cx hsbr
      generalize r.1 = d2 at hlv harm hkeep cx hq2
      have hxj : (x.mv p c o2).jb = x.jb := rfl
      generalize x.mv p c o2 = x2 at cx hsbr hxj
      obtain ⟨Θ, hΘ⟩ : ∃ Θ : PW, (fun M w => Ψ M w ∧ Sl M w p5 ws) = Θ := ⟨_, rfl⟩
      have stΘ : Stable Θ := by rw [← hΘ]; infer_instance
      have hΘΨ : ∀ M w, Θ M w → Ψ M w := by rw [← hΘ]; exact fun _ _ h => h.1
      have hΘw : ∀ M w, Θ M w → Sl M w p5 ws := by rw [← hΘ]; exact fun _ _ h => h.2
      rw [hΘ] at cx
      clear hΘ cx6 cx5
      have hiΘ : JI Θ := hi.weak hΘΨ
      have kkΘ : ∀ (u : DkU) {d : DsS}, d.keep = [] → DkK Θ (q.mv u) d := fun u {d} h => (kkof u h).weak hΘΨ
      refine Lose_use (q := q.mv u2) (S := JoO x2 q j2 ++ (R ++ G)) hq2 (by unfold I64; omega) (o_in cx) fun w hq3 cx => ⟨rfl, JoO x2 q j2 ++ (dkL (q.mv u2) (loseS d2 0) ++ R), Θ, inferInstance, jd_out cx, ?_⟩
      refine exI_mk (fun p n R' Φ' k => ∃ (i : Nat) (u : DkU) (d : DsS) (x : JoP) (j : JouS), p = some ⟨x.jb, 0, none⟩ ∧ n = i ∧ i + k = 2 ∧ R' = JoO x q j ++ (dkL (q.mv u) d ++ R) ∧ Φ' = Θ ∧ DkQ (q.mv u) d ∧ d.armed = 0 ∧ d.lost = 0 ∧ d.keep = [] ∧ Live d j ∧ j.broken = false ∧ j.base = 0 ∧ j.list = ws ∧ SB x.p x.cap j.list x.o)
        ⟨⟨_, Θ, 2, inferInstance, fun w G cx => cx, 0, u2, loseS d2 0, x2, j2, by rw [hxj], rfl, rfl, rfl, rfl, hq3, harm, rfl, hkeep, hlv.frame (lose_files _ _), hbr, hbase, hws, hsbr⟩, ?_⟩
      rintro pj n R1 Θ k st ⟨i, u, d, x, j, rfl, rfl, hik, rfl, rfl, hq4, ha4, hl4, hk4, hv4, hbr4, hb4, hw4, sb4⟩
      refine Br.intro (fun hlt => fun w G cx => ?_) (fun hge => Br.intro (fun _ => fun w G cx => ?_) (fun h => by cases h))
      · have hlt := of_decide_eq_true hlt
        obtain ⟨k, rfl⟩ : ∃ m, k = m + 1 := ⟨k - 1, by omega⟩
        refine All_use (q := q) (S := (dkL (q.mv u) d ++ R) ++ G) sb4 (by rw [hw4]; omega) (cx.re (List.append_assoc _ _ _)) fun g2 w cx => ?_
        have c2 := froz (S := (JoO x q j ++ (dkL (q.mv u) d ++ R)) ++ G) (by rw [hw4]; exact hwsz) (cx.re (congrArg (_ :: ·) (List.append_assoc _ _ _).symm))
        refine ⟨_, _, _, rfl, JoO x q j ++ (dkL (q.mv u) d ++ R), _, inferInstance, c2, fun w G cx => ?_⟩
        refine (Same_in (fun M w h => h.2) (fun M w h => hΘw M w h.1) (by rw [hw4]; omega)).use cx fun w cx => ?_
        rw [decide_eq_true hw4]
        refine ⟨true, rfl, JoO x q j ++ (dkL (q.mv u) d ++ R), Θ, inferInstance, cx.weak fun _ _ h => h.1, Br.intro (fun h => by cases h) (fun _ => Br.intro (fun _ => fun w G cx => ?_) (fun _ => fun w G cx => ?_))⟩
        · exact reopen_use hiΘ hq4 kkΘ ha4 hl4 hk4 hv4 hb4 ho50 (fun M w h => h1 M w (hΘΨ M w h)) cx fun u' d' x' j' b1 b2 b3 b4 b5 b6 b7 b8 b9 => fun w G cx => Br.intro (fun h => by simp at h) (fun _ => ⟨by unfold I64; omega, _, Θ, k, inferInstance, fun w G cx => cx, ⟨i + 1, u', d', x', j', rfl, by omega, by omega, rfl, rfl, b1, b2, b3, b4, b5, b6, b7, b8.trans hw4, b9⟩, Nat.lt_succ_self _⟩)
        · exact reopen_use hiΘ hq4 kkΘ ha4 hl4 hk4 hv4 hb4 ht50 (fun M w h => h2 M w (hΘΨ M w h)) cx fun u' d' x' j' b1 b2 b3 b4 b5 b6 b7 b8 b9 => fun w G cx => Br.intro (fun h => by simp at h) (fun _ => ⟨by unfold I64; omega, _, Θ, k, inferInstance, fun w G cx => cx, ⟨i + 1, u', d', x', j', rfl, by omega, by omega, rfl, rfl, b1, b2, b3, b4, b5, b6, b7, b8.trans hw4, b9⟩, Nat.lt_succ_self _⟩)
      · refine All_use (q := q) (S := (dkL (q.mv u) d ++ R) ++ G) sb4 (by rw [hw4]; omega) (cx.re (List.append_assoc _ _ _)) fun g2 w cx => ?_
        have c2 := froz (S := (JoO x q j ++ (dkL (q.mv u) d ++ R)) ++ G) (by rw [hw4]; exact hwsz) (cx.re (congrArg (_ :: ·) (List.append_assoc _ _ _).symm))
        refine ⟨_, _, _, rfl, JoO x q j ++ (dkL (q.mv u) d ++ R), _, inferInstance, c2, fun w G cx => ?_⟩
        refine (Same_in (fun M w h => h.2) (fun M w h => hΘw M w h.1) (by rw [hw4]; omega)).use cx fun w cx => ?_
        rw [decide_eq_true hw4]
        exact ⟨true, rfl, JoO x q j ++ (dkL (q.mv u) d ++ R), Θ, inferInstance, cx.weak fun _ _ h => h.1, fun w G cx => ⟨rfl, (b_end cx).weak fun M w h => hΦ M w (hΘΨ M w h)⟩⟩
theorem Stays_in [Stable Φ] (hi : JI Φ) {lp sp op tp : Option Addr} {lc sc oc tc : Nat} {l : List OpJ} {s : List ByteArray} {one two : List Int} (hl : ∀ M w, Φ M w → Sl M w lp l)
    (hs : ∀ M w, Φ M w → Sl M w sp s) (h1 : ∀ M w, Φ M w → Sl M w op one) (h2 : ∀ M w, Φ M w → Sl M w tp two) (hll : l.length ≤ 9223372036854775807) (hsl : s.length ≤ 9223372036854775807) :
    GivesIn Φ Tryd.prog F.erratalaw06_JournalStays #[.slice lp l.length lc, .slice sp s.length sc, .slice op one.length oc, .slice tp two.length tc] (.bool true) := ⟨fun W w S cx => by
  obtain ⟨g, o, cs, hp, cx'⟩ := cx.pin (hl _ _ cx.phi)
  exact ((stays_pin (Φ := fun M w => Φ M w ∧ Pin g o cs l M w) (hi.weak fun _ _ h => h.1) hp (fun M w h => h.2) (fun M w h => hs M w h.1) (fun M w h => h1 M w h.1) (fun M w h => h2 M w h.1) hll hsl).go W w S cx').mono fun e w' ⟨he, c'⟩ => ⟨he, c'.weak fun _ _ h => h.1⟩⟩
end
end Go.Proofs.YtfccagphnfceiaaDoor
end

/-
  From what a row lists as laid to the facts of the walk.
-/
section
set_option linter.unusedVariables false
set_option linter.unusedSimpArgs false
namespace Go.Proofs.YtfccagphnfceiaaDoor
open Go.Vc Go.RowKit


theorem la_row (u : TypeId) (h : Tryd.prog.typeName? 3 u = some "*errors.errorString") : u = 140 :=
  typeName_ptr_named (nm := "errors.errorString") (by rw [show "*" ++ "errors.errorString" = "*errors.errorString" by decide]; kernel_rfl) (by kernel_rfl) (by decide) u (by rw [show "*" ++ "errors.errorString" = "*errors.errorString" by decide]; exact h)

theorem la_err {n : String} {text : List UInt8} {r : List (String × DataW Unit)} {W : World} {g : Nat} (h : laidMet Tryd.prog ((n, .iface "*errors.errorString" (.ptr (.agg [.lit (.string text)]))) :: r) W)
    (hg : Tryd.prog.globalNamed n = some g) (ht : (Tryd.prog.globals[g]?).map (·.type) = some 92) : ErrAt g [] W := by
  obtain ⟨a, s, hv, _⟩ := laid_sentinel h hg ht Tryd.underlying92 la_row Tryd.underlying140 Tryd.underlying142 rfl rfl Tryd.underlying9 (by kernel_rfl) (by kernel_rfl)
  exact ⟨by simp, _, by have h0 := World.var?_cell hg hv 0; simpa using h0, .inr ⟨_, _, rfl⟩⟩

abbrev LaidI : PW := fun M w => NumI M w ∧ OffI M w
theorem la_num {W : World} (h : laidMetH Tryd.prog Rows.journalReadsRow.laid W) : LaidI [] W := by
  rw [MakeChecks.laidMetH_plain Tryd.prog Rows.journalReadsRow.laid W (by kernel_rfl)] at h
  have h2 := h.tail.tail
  exact ⟨⟨Tab.start (Lib.tabIs_of_head (k := .u64) (zs := Lib.pow10Tab) (g := 1) (t := 127) (e := 110) (n := 20) (by kernel_rfl) (by kernel_rfl) (by kernel_rfl) (by kernel_rfl) (by kernel_rfl) (by kernel_rfl) h2),
    la_err h2.tail.tail.tail (by kernel_rfl) (by kernel_rfl), la_err h2.tail.tail (by kernel_rfl) (by kernel_rfl)⟩,
    Tab.start (Lib.tabIs_of_head (k := .i64) (zs := [0, 64, 131072]) (g := 0) (t := 87) (e := 3) (n := 3) (by kernel_rfl) (by kernel_rfl) (by kernel_rfl) (by kernel_rfl) (by kernel_rfl) (by kernel_rfl) h2.tail)⟩

end Go.Proofs.YtfccagphnfceiaaDoor
end

section
set_option linter.unusedVariables false
set_option linter.unusedSimpArgs false
namespace Go.Proofs.YtfccagphnfceiaaDoor
open Go.ChangeShapes Go.WideShapes Go.ChangeAt Go.RowKit Go.Vc


theorem df_own : ownKnob Tryd.prog.godebug = none := by kernel_rfl
theorem df_laid : laidOutB Tryd.prog = true := by kernel_rfl

theorem trodAll_n {H : Type} {enc : TypeId × Value → H} {P : Program} {w : World} {base : Nat} {spare : Nat → Bool} {held : Bool} {t0 t1 t2 t3 : TypeId} {args : Array Value} {ds : List (DataW H)} {ps : List MemPlace} (h : DataW.TrodAll enc P w base spare held [t0, t1, t2, t3] args.toList ds ps) :
    ∃ v0 v1 v2 v3 d0 d1 d2 d3 p0 p1 p2 p3, args = #[v0, v1, v2, v3] ∧ ds = [d0, d1, d2, d3] ∧ ps = p0 ++ p1 ++ p2 ++ p3 ∧ DataW.Trod enc P w base spare held t0 v0 d0 p0 ∧ DataW.Trod enc P w base spare held t1 v1 d1 p1 ∧ DataW.Trod enc P w base spare held t2 v2 d2 p2 ∧ DataW.Trod enc P w base spare held t3 v3 d3 p3 := by
  obtain ⟨v0, vs0, d0, ds0, p0, q0, hargs, rfl, rfl, h0, h⟩ := trodAll_cons h
  obtain ⟨v1, vs1, d1, ds1, p1, q1, rfl, rfl, rfl, h1, h⟩ := trodAll_cons h
  obtain ⟨v2, vs2, d2, ds2, p2, q2, rfl, rfl, rfl, h2, h⟩ := trodAll_cons h
  obtain ⟨v3, vs3, d3, ds3, p3, q3, rfl, rfl, rfl, h3, h⟩ := trodAll_cons h
  obtain ⟨rfl, rfl, rfl⟩ := trodAll_nil h
  exact ⟨v0, v1, v2, v3, d0, d1, d2, d3, p0, p1, p2, p3, by cases args; simp_all, rfl, by simp, h0, h1, h2, h3⟩

theorem door_met (os : Os) (args : Array Value) : laidMetH Tryd.prog Rows.journalStaysRow.laid ((World.doorLaid Tryd.prog 400 os).forCall (fun _ _ => 0) ⟨#[], args, []⟩).memory :=
  laidMetH_of_parts3 (fuel := 8) (laidMet_of_run' 8 (by kernel_rfl) (by kernel_rfl)) (by kernel_rfl) (by kernel_rfl)

set_option maxRecDepth 100000 in
theorem law_lifted (os : Os) (started : os.Started) (H : Type) (enc : TypeId × Value → H) :
    ReturnsInHanded {} Tryd.checked os 5 .any (fun w args => (Rows.journalStaysSpec.pre enc Tryd.prog Tryd.f5 Rows.journalStaysRow.domain false w args ∧ laidMetH Tryd.prog Rows.journalStaysRow.laid w) ∧ sizedMet enc Tryd.prog Tryd.f5 (OpenSpec.ofChange Rows.journalStaysSpec) false w args) (Rows.journalStaysSpec.post enc Tryd.prog Tryd.f5 false true false false) := by
  refine lawTrueLaid (C := Tryd.checked) (tb := 4) df_own started (by kernel_rfl) Tryd.func5 df_laid rfl ?_ rfl Tryd.underlying4 (by kernel_rfl)
    (ChangeSpec.witness_shaped (enc := enc) (C := Tryd.checked) (os := os) (X := fun w _ => laidMetH Tryd.prog Rows.journalStaysRow.laid w) false (World.doorLaid Tryd.prog 400 os) #[.slice none 0 0, .slice none 0 0, .slice none 0 0, .slice none 0 0] 8 rfl (World.shaped_of_RefB (by kernel_rfl) (by kernel_rfl)) (by kernel_rfl) (by kernel_rfl) (by kernel_rfl) (door_met os _)) ?_
  · intro ds hd
    match ds, hd with
    | [_, _, _, _], _ => exact ⟨rfl, rfl, rfl⟩
  · intro W base args ds p hval0 hA0 _ hL
    have hval : ∀ (j : Nat) t v, Tryd.f5.params[j]? = some t → args[j]? = some v → Value.okWide Tryd.prog W .any base t v := hval0
    have hA : DataW.TrodAll enc Tryd.prog W 0 (fun _ => true) true Tryd.f5.params.toList args.toList ds p := hA0
    rw [Tryd.params5] at hA hval
    obtain ⟨v0, v1, v2, v3, d0, d1, d2, d3, p0, p1, p2, p3, rfl, rfl, rfl, h0, h1, h2, h3⟩ := trodAll_n hA
    obtain ⟨lp, lc, l, rfl, la, lb, s0⟩ := open_sl (α := OpJ) 12 Tryd.underlying45 (hval 0 45 v0 rfl rfl) (by kernel_rfl) h0
    obtain ⟨sp, sc, s, rfl, sa, sb, s1⟩ := open_sl (α := ByteArray) 12 Tryd.underlying36 (hval 1 36 v1 rfl rfl) (by kernel_rfl) h1
    obtain ⟨onep, onec, one, rfl, onea, oneb, s2⟩ := open_sl (α := Int) 12 Tryd.underlying46 (hval 2 46 v2 rfl rfl) (by kernel_rfl) h2
    obtain ⟨twop, twoc, two, rfl, twoa, twob, s3⟩ := open_sl (α := Int) 12 Tryd.underlying46 (hval 3 46 v3 rfl rfl) (by kernel_rfl) h3
    have st0 : Stable (fun M w => Sl M w twop two) := inferInstance
    have st1 : Stable (fun M w => Sl M w onep one ∧ Sl M w twop two) := instStableAnd (fun M w => Sl M w onep one) (fun M w => Sl M w twop two)
    have st2 : Stable (fun M w => Sl M w sp s ∧ Sl M w onep one ∧ Sl M w twop two) := instStableAnd (fun M w => Sl M w sp s) (fun M w => Sl M w onep one ∧ Sl M w twop two)
    have st3 : Stable (fun M w => Sl M w lp l ∧ Sl M w sp s ∧ Sl M w onep one ∧ Sl M w twop two) := instStableAnd (fun M w => Sl M w lp l) (fun M w => Sl M w sp s ∧ Sl M w onep one ∧ Sl M w twop two)
    have st4 : Stable (fun M w => LaidI M w ∧ Sl M w lp l ∧ Sl M w sp s ∧ Sl M w onep one ∧ Sl M w twop two) := instStableAnd (fun M w => LaidI M w) (fun M w => Sl M w lp l ∧ Sl M w sp s ∧ Sl M w onep one ∧ Sl M w twop two)
    have fin : GivesIn (fun M w => LaidI M w ∧ Sl M w lp l ∧ Sl M w sp s ∧ Sl M w onep one ∧ Sl M w twop two) Tryd.prog 5 _ (.bool true) := Stays_in (Φ := (fun M w => LaidI M w ∧ Sl M w lp l ∧ Sl M w sp s ∧ Sl M w onep one ∧ Sl M w twop two)) ⟨fun _ _ h => h.1.1, fun _ _ h => h.1.2⟩ (lp := lp) (lc := lc) (l := l) (sp := sp) (sc := sc) (s := s) (op := onep) (oc := onec) (one := one) (tp := twop) (tc := twoc) (two := two) (fun _ _ h => h.2.1) (fun _ _ h => h.2.2.1) (fun _ _ h => h.2.2.2.1) (fun _ _ h => h.2.2.2.2) (by unfold maxLen at *; omega) (by unfold maxLen at *; omega)
    exact fin.law ⟨la_num hL, s0, s1, s2, s3⟩

theorem row_holds : Rows.JournalStaysSaid :=
  OpenClaim.holds_of_wide 5 Tryd.f5 rfl rfl rfl rfl rfl rfl rfl ⟨rfl, rfl, rfl, rfl, rfl⟩ rfl rfl rfl rfl rfl (by kernel_rfl) Tryd.func5 (by kernel_rfl)
    (of_decide_eq_true (by kernel_rfl)) (by unfold Func.isWrapper; first | (rw [if_pos (by decide +kernel)]; kernel_rfl) | (rw [if_neg (by decide +kernel)]; exact ⟨rfl, rfl⟩))
    (fun os started H enc _ => law_lifted os started H enc)

theorem stays_holds : Rows.JournalStaysCardSaid :=
  Claim7.holds_tied_plain_at .later [] [.data, .data, .data, .data, .sentinel, .sentinel] true Rows.journalStaysCard.stood.harness true
    row_holds (fun _ h => by cases h) (by kernel_rfl) (fun _ h => by cases h) journalStays_row_tie rfl ⟨rfl, rfl⟩ (by kernel_rfl) rfl
    (fun f fn hf hfn => by
      obtain rfl : f = 5 := Option.some.inj ((show Tryd.prog.funcNamed Rows.journalStaysRow.func = some 5 by kernel_rfl).symm.trans hf) |>.symm
      obtain rfl : fn = Tryd.f5 := (Option.some.inj (Tryd.func5.symm.trans hfn)).symm
      exact ⟨by kernel_rfl, fun j t ht => by
        rw [Tryd.params5] at ht
        have hm := Array.mem_of_getElem? ht
        have hall : ((Tryd.f5.params.toList).all fun u => !Tryd.prog.wantsStandIn u) = true := by kernel_rfl
        rw [Tryd.params5] at hall
        exact (show Tryd.prog.wantsStandIn t = false by simpa using List.all_eq_true.1 hall t (by simpa using hm))⟩)
    (by kernel_rfl)

end Go.Proofs.YtfccagphnfceiaaDoor
end

