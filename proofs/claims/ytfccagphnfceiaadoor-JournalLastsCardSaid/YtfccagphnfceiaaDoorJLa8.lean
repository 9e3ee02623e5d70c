/-
  A cell in memory: Set: walked.
-/
import Derived.Test.YtfccagphnfceiaaDoorJLa7
import Derived.Test.YtfccagphnfceiaaDoorJLa5
import Derived.Test.YtfccagphnfceiaaDoorJLa6

section
set_option linter.unusedVariables false
set_option linter.unusedSimpArgs false
namespace Go.Proofs.YtfccagphnfceiaaDoor
open Go.Vc

section
variable {W w : World} {S G : List Own} {Φ : PW}
theorem own_in [Stable Φ] {o : Own} {X S G : List Own} (cx : Ctx W w ((o :: (X ++ S)) ++ G) Φ) : Ctx W w (X ++ (o :: (S ++ G))) Φ := (re3 cx).perm List.perm_middle.symm
theorem own_out [Stable Φ] {o : Own} {X S G : List Own} (cx : Ctx W w (X ++ (o :: (S ++ G))) Φ) : Ctx W w ((o :: (X ++ S)) ++ G) Φ := re4 (cx.perm List.perm_middle)
theorem setC_sure {d : DsS} {c : CelS} {s : Bs} (h : ¬ 65536 < s.length) (h2 : ¬ (c.sure = false ∧ 0 < c.slot)) : setC d c s = setC2 d c s (if c.slot = 1 then 2 else 1) := by
  unfold setC; rw [if_neg h, if_neg h2]

theorem CSet_use [Stable Φ] {cb : Nat} {q : DkP} {d : DsS} {c : CelS} {s : Bs} (hq : DkQ q d) (hkp : DkK Φ q d) (hoff : ∀ M w, Φ M w → OffI M w) (cx : Ctx W w (clO cb q c :: (dkL q d ++ S)) Φ) {K : Ending → World → Prop}
    (hk : ∀ u w', DkQ (q.mv u) (setC d c s).1 → Ctx W w' (clO cb q (setC d c s).2.1 :: (dkL (q.mv u) (setC d c s).1 ++ S)) Φ → K (.returned (.int .i64 (setC d c s).2.2)) w') : Calls Tryd.prog F.cell_Cell_Set #[.pointer (some ⟨cb, 0, none⟩), .string (bs s)] w K := by
  refine (Bcell_Cell_Set_run cb 0 (bs s) (J := fun u w' => K (.returned u) w') cx (Br.intro (fun h => fun w G cx => ?_) (fun h => exI_mk (fun R' Φ' => ∃ u d1 c1, R' = clO cb q c1 :: (dkL (q.mv u) d1 ++ S) ∧ Φ' = Φ ∧ DkQ (q.mv u) d1 ∧ d1.keep = d.keep ∧ setC d c s = setC2 d1 c1 s (if c1.slot = 1 then 2 else 1)) ⟨fun w G cx => ⟨_, cx.get 0 rfl rfl, _, fun _ => cx.get 0 rfl rfl, Br.intro (fun h2 => ?_) (fun h2 => ?_)⟩, ?_⟩))).mono fun e w' ⟨v, he, hj⟩ => by rw [he]; exact hj
  · have h : 65536 < s.length := by have := of_decide_eq_true h; rw [bs_size] at this; omega
    have e : setC d c s = (d, c, 6) := by unfold setC; rw [if_pos h]
    rw [e] at hk
    exact hk q.un w hq cx.left
  all_goals have h : ¬ 65536 < s.length := by have := of_decide_eq_false h; rw [bs_size] at this; omega
  · have h2 : c.sure = false ∧ 0 < c.slot := by
      simp only [Bool.and_eq_true, decide_eq_true_eq, Bool.not_eq_true'] at h2
      exact ⟨h2.1, by omega⟩
    refine ⟨_, Φ, inferInstance, fun w G cx => cx, some ⟨q.db, 0, none⟩, fun w G cx => ⟨_, cx.get 0 rfl rfl, rfl⟩, c.file, fun w G cx => ⟨_, cx.get 0 rfl rfl, rfl⟩, fun w G cx => ?_⟩
    have ec : setC d c s = if (syncS d c.file).2 ≠ 0 then ((syncS d c.file).1, c, (syncS d c.file).2) else setC2 (syncS d c.file).1 { c with sure := true } s (if c.slot = 1 then 2 else 1) := by
      unfold setC; rw [if_neg h, if_pos h2]
    have hkeep := sync_keep d c.file
    refine Sync_use (S := clO cb q c :: (S ++ G)) hq hkp (own_in cx) fun u w hq1 cx => ?_
    rw [ec] at hk ⊢
    generalize syncS d c.file = r at hk hq1 cx hkeep
    obtain ⟨d1, e1⟩ := r
    simp only at hk hq1 cx hkeep
    refine ⟨e1, rfl, clO cb q c :: (dkL (q.mv u) d1 ++ S), Φ, inferInstance, own_out cx, Br.intro (fun h3 => fun w G cx => ?_) (fun h3 => fun w G cx => ⟨cx.can 0 rfl (by show 4 + 1 ≤ 5; omega), fun w' hw' => ?_⟩)⟩
    · rw [if_pos (of_decide_eq_true h3)] at hk
      exact hk u w hq1 cx.left
    · have c1 := cx.put 0 hw' rfl
      refine ⟨clO cb q { c with sure := true } :: (dkL (q.mv u) d1 ++ S), Φ, inferInstance, c1, _, Φ, inferInstance, fun w G cx => cx, u, d1, { c with sure := true }, rfl, rfl, hq1, hkeep, ?_⟩
      rw [if_neg (of_decide_eq_false h3)]
  · have h2 : ¬ (c.sure = false ∧ 0 < c.slot) := fun h3 => by
      simp only [Bool.and_eq_false_iff, decide_eq_false_iff_not, Bool.not_eq_false'] at h2
      rcases h2 with h2 | h2
      · rw [h3.1] at h2; cases h2
      · omega
    exact ⟨_, Φ, inferInstance, fun w G cx => cx, q.un, d, c, rfl, rfl, hq, rfl, setC_sure h h2⟩
  rintro R1 Φ st ⟨u, d1, c1, rfl, rfl, hq1, hkeep, hset⟩
  rw [hset] at hk
  refine exI_mk (fun nI R' Φ' => nI = (((if c1.slot = 1 then 2 else 1) : Nat) : Int) ∧ R' = clO cb q c1 :: (dkL (q.mv u) d1 ++ S) ∧ Φ' = Φ) ⟨fun w G cx => ⟨(c1.slot : Int), cx.get 0 rfl rfl, Br.intro (fun h3 => ⟨_, Φ, inferInstance, fun w G cx => cx, by rw [if_pos (by have := of_decide_eq_true h3; omega)]; rfl, rfl, rfl⟩) (fun h3 => ⟨_, Φ, inferInstance, fun w G cx => cx, by rw [if_neg (by have := of_decide_eq_false h3; omega)]; rfl, rfl, rfl⟩)⟩, ?_⟩
  rintro nI R1 Φ st ⟨rfl, rfl, rfl⟩
  have hsl : (if c1.slot = 1 then 2 else 1) = 1 ∨ (if c1.slot = 1 then 2 else 1) = 2 := by split; exact .inr rfl; exact .inl rfl
  generalize (if c1.slot = 1 then 2 else 1) = sl at hk hsl
  have hs3 : sl < 3 := by omega
  have hkp1 : DkK Φ (q.mv u) d1 := hkp.of hkeep u
  unfold setC2 at hk
  have hkw := write_keep d1 c1.file (offS sl) s
  refine ⟨_, Φ, inferInstance, fun w G cx => cx, ⟨by omega, by omega⟩, (offS sl : Int), fun w G cx => ⟨_, by rw [Int.toNat_natCast, Nat.zero_add]; exact off_cell (hoff _ _ cx.phi) hs3, rfl⟩, some ⟨q.db, 0, none⟩, fun w G cx => ⟨_, cx.get 0 rfl rfl, rfl⟩, c1.file, fun w G cx => ⟨_, cx.get 0 rfl rfl, rfl⟩, fun w G cx => ?_⟩
  refine Write_use (q := q.mv u) (S := clO cb q c1 :: (S ++ G)) hq1 hkp1 (by omega) (own_in cx) fun u w hq2 cx => ?_
  generalize writeS d1 c1.file (offS sl : Int) s = r at hk hq2 cx hkw
  obtain ⟨d2, e2⟩ := r
  simp only at hk hq2 cx hkw
  refine ⟨e2, rfl, clO cb q c1 :: (dkL (q.mv u) d2 ++ S), Φ, inferInstance, own_out cx, Br.intro (fun h3 => fun w G cx => ?_) (fun h3 => ?_)⟩
  · rw [if_pos (of_decide_eq_true h3)] at hk
    exact hk u w hq2 cx.left
  rw [if_neg (of_decide_eq_false h3)] at hk
  have hkp2 : DkK Φ (q.mv u) d2 := hkp.of (hkw.trans hkeep) u
  have hks := sync_keep d2 c1.file
  refine ⟨_, Φ, inferInstance, fun w G cx => cx, some ⟨q.db, 0, none⟩, fun w G cx => ⟨_, cx.get 0 rfl rfl, rfl⟩, c1.file, fun w G cx => ⟨_, cx.get 0 rfl rfl, rfl⟩, fun w G cx => ?_⟩
  refine Sync_use (q := q.mv u) (S := clO cb q c1 :: (S ++ G)) hq2 hkp2 (own_in cx) fun u w hq3 cx => ?_
  generalize syncS d2 c1.file = r at hk hq3 cx hks
  obtain ⟨d3, e3⟩ := r
  simp only at hk hq3 cx hks
  refine ⟨e3, rfl, clO cb q c1 :: (dkL (q.mv u) d3 ++ S), Φ, inferInstance, own_out cx, Br.intro (fun h4 => fun w G cx => ?_) (fun h4 => ?_)⟩
  · rw [if_pos (of_decide_eq_true h4)] at hk
    exact hk u w hq3 cx.left
  rw [if_neg (of_decide_eq_false h4)] at hk
  have hkp3 : DkK Φ (q.mv u) d3 := hkp.of (hks.trans (hkw.trans hkeep)) u
  have hkw2 := write_keep d3 c1.file 0 (hdrL sl s.length)
  refine ⟨_, Φ, inferInstance, fun w G cx => cx, some ⟨q.db, 0, none⟩, fun w G cx => ⟨_, cx.get 0 rfl rfl, rfl⟩, c1.file, fun w G cx => ⟨_, cx.get 0 rfl rfl, rfl⟩, fun w G cx => ?_⟩
  refine header_use (S := (clO cb q c1 :: (dkL (q.mv u) d3 ++ S)) ++ G) (by omega) cx fun w cx => ⟨_, rfl, clO cb q c1 :: (dkL (q.mv u) d3 ++ S), Φ, inferInstance, cx, fun w G cx => cx, fun w G cx => ?_⟩
  refine Write_use (q := q.mv u) (S := clO cb q c1 :: (S ++ G)) hq3 hkp3 (by show 5 ≤ _; omega) (own_in cx) fun u w hq4 cx => ?_
  generalize writeS d3 c1.file 0 (hdrL sl s.length) = r at hk hq4 cx hkw2
  obtain ⟨d4, e4⟩ := r
  simp only at hk hq4 cx hkw2
  refine ⟨e4, rfl, clO cb q c1 :: (dkL (q.mv u) d4 ++ S), Φ, inferInstance, own_out cx, Br.intro (fun h5 => fun w G cx => ?_) (fun h5 => fun w G cx => ⟨cx.can 0 rfl (by show 2 + 1 ≤ 5; omega), fun w' hw' => ?_⟩)⟩
  · rw [if_pos (of_decide_eq_true h5)] at hk
    exact hk u w hq4 cx.left
  rw [if_neg (of_decide_eq_false h5)] at hk
  have hkp4 : DkK Φ (q.mv u) d4 := hkp.of (hkw2.trans (hks.trans (hkw.trans hkeep))) u
  refine ⟨clO cb q { c1 with slot := sl } :: (dkL (q.mv u) d4 ++ S), Φ, inferInstance, cx.put 0 hw' rfl, fun w G cx => ⟨cx.can 0 rfl (by show 3 + 1 ≤ 5; omega), fun w' hw' => ?_⟩⟩
  refine ⟨clO cb q { c1 with slot := sl, value := s } :: (dkL (q.mv u) d4 ++ S), Φ, inferInstance, cx.put 0 hw' rfl, fun w G cx => ⟨cx.can 0 rfl (by show 4 + 1 ≤ 5; omega), fun w' hw' => ?_⟩⟩
  refine ⟨clO cb q ⟨c1.file, sl, s, false⟩ :: (dkL (q.mv u) d4 ++ S), Φ, inferInstance, cx.put 0 hw' rfl, ?_⟩
  refine ⟨_, Φ, inferInstance, fun w G cx => cx, some ⟨q.db, 0, none⟩, fun w G cx => ⟨_, cx.get 0 rfl rfl, rfl⟩, c1.file, fun w G cx => ⟨_, cx.get 0 rfl rfl, rfl⟩, fun w G cx => ?_⟩
  refine Sync_use (q := q.mv u) (S := clO cb q ⟨c1.file, sl, s, false⟩ :: (S ++ G)) hq4 hkp4 (own_in cx) fun u w hq5 cx => ?_
  generalize syncS d4 c1.file = r at hk hq5 cx
  obtain ⟨d5, e5⟩ := r
  simp only at hk hq5 cx
  refine ⟨e5, rfl, clO cb q ⟨c1.file, sl, s, false⟩ :: (dkL (q.mv u) d5 ++ S), Φ, inferInstance, own_out cx, fun w G cx => ⟨cx.can 0 rfl (by show 4 + 1 ≤ 5; omega), fun w' hw' => ?_⟩⟩
  exact ⟨clO cb q ⟨c1.file, sl, s, decide (e5 = 0)⟩ :: (dkL (q.mv u) d5 ++ S), Φ, inferInstance, cx.put 0 hw' rfl, fun w G cx => hk u w hq5 cx.left⟩
end
end Go.Proofs.YtfccagphnfceiaaDoor
end

/-
  A list of strings, as a journal holds it: a slice that grows, or one that was cut; the form.
-/
section
set_option linter.unusedVariables false
set_option linter.unusedSimpArgs false
namespace Go.Proofs.YtfccagphnfceiaaDoor
open Go.Vc

abbrev strC (l : List ByteArray) : List Value := l.map Value.string
theorem strC_len (l : List ByteArray) : (strC l).length = l.length := by simp
theorem str_oneJ (M : List Nat) (w : World) (cs : List Value) (x : ByteArray) (h : Gv.rep M w cs x) : (cs.all fun u => oneC u) = true := by
  obtain ⟨rfl, _⟩ := h
  rfl
theorem elems_strJ {M : List Nat} {w : World} {l : List ByteArray} (h : ∀ x ∈ l, x.size ≤ maxLen) : Elems M w (strC l) l := by
  refine ⟨by rw [strC_len]; exact (Nat.mul_one _).symm, fun j hj => ⟨?_, h _ (List.getElem_mem hj)⟩⟩
  show ((strC l).drop (j * 1)).take 1 = [.string l[j]]
  rw [Nat.mul_one, List.drop_eq_getElem_cons (by rw [strC_len]; exact hj), List.take_succ_cons, List.take_zero, List.getElem_map]
theorem strs_elems {M : List Nat} {w : World} {cs : List Value} {l : List ByteArray} (h : Elems M w cs l) : cs = strC l := by
  have h1 : cs.length = l.length := by have := h.1; rw [this]; exact Nat.mul_one _
  apply List.ext_getElem (by rw [h1, strC_len])
  intro i h2 h3
  rw [strC_len] at h3
  have := (h.2 i h3).1
  rw [show (Gv.ty ByteArray).size = 1 from rfl, Nat.mul_one, List.drop_eq_getElem_cons h2, List.take_succ_cons, List.take_zero] at this
  rw [List.getElem_map]
  exact (List.cons.inj this).1
theorem sl_str {M : List Nat} {w : World} {b o : Nat} {l : List ByteArray} (h : Sl M w (some ⟨b, o, none⟩) l) {i : Nat} (hi : i < l.length) : w.cell? ⟨b, o + i, none⟩ = some (.string l[i]) := by
  obtain ⟨b', o', cs, e, _, h3, rfl, _⟩ := h i hi
  cases e
  have := h3 0 (by simp)
  simpa [show (Gv.ty ByteArray).size = 1 from rfl] using this
theorem sl_take {M : List Nat} {w : World} {p : Option Addr} {l : List ByteArray} (h : Sl M w p l) (k : Nat) : Sl M w p (l.take k) := fun j hj => by
  have hj2 : j < l.length := by rw [List.length_take] at hj; omega
  have := h j hj2
  rw [List.getElem_take]
  exact this
theorem park_str {W w : World} {M : List Nat} {b : Nat} {rest : List Value} {t : TypeId} {l : List ByteArray} (h : Parked W (.blk b (strC l ++ rest) t) M w) (hs : ∀ x ∈ l, x.size ≤ maxLen) : Sl M w (some ⟨b, 0, none⟩) l := fun j hj => by
  have hr := h.rowIn (o := j) (vs := [.string l[j]]) fun i hi => by
    have hi : i = 0 := by simp at hi; omega
    subst hi
    rw [Nat.add_zero, List.getElem?_append_left (by rw [strC_len]; exact hj), List.getElem?_map, List.getElem?_eq_getElem hj]; rfl
  refine ⟨b, 0, [.string l[j]], rfl, hr.1, ?_, rfl, hs _ (List.getElem_mem hj)⟩
  rw [show (Gv.ty ByteArray).size = 1 from rfl, Nat.zero_add, Nat.mul_one]
  exact hr.2.1

inductive SB : Option Addr → Nat → List ByteArray → Own → Prop
  | buf (p : Option Addr) (cap : Nat) (l : List ByteArray) : SB p cap l (.buf p l.length cap (strC l) 9 1)
  | cut (g : Nat) (l : List ByteArray) (cs : List Value) : SB (some ⟨g, 0, none⟩) l.length l (.blk g (strC l ++ cs) 9)

section
variable {W w : World} {S G : List Own} {Φ : PW} {p : Option Addr} {cap : Nat} {l : List ByteArray} {o : Own}
theorem SB.sl [Stable Φ] (h : SB p cap l o) {M : List Nat} (hs : ∀ x ∈ l, x.size ≤ maxLen) (ha : Go.Vc.Aside W [o] Φ M w) : Sl M w p l := by
  have hp := ha.parked (o := o) (by simp)
  cases h with
  | buf => exact hp.sl (D := []) (elems_strJ hs)
  | cut g l cs => exact park_str hp hs
theorem SB.get (h : SB p cap l o) (cx : Ctx W w (o :: S) Φ) {i : Nat} (hi : i < l.length) : ∃ g, p = some ⟨g, 0, none⟩ ∧ w.cell? ⟨g, i, none⟩ = some (.string l[i]) := by
  cases h with
  | buf =>
    obtain ⟨g, hg, _, h2⟩ := cx.bufCell 0 rfl (by rw [strC_len]; omega)
    exact ⟨g, hg, (h2 i _ (by rw [List.getElem?_map, List.getElem?_eq_getElem hi]; rfl)).1⟩
  | cut g l cs => exact ⟨g, rfl, cx.get 0 rfl (by rw [List.getElem?_append_left (by rw [strC_len]; exact hi), List.getElem?_map, List.getElem?_eq_getElem hi]; rfl)⟩
theorem SB.cutAt [Stable Φ] (h : SB p cap l o) (cx : Ctx W w (o :: S) Φ) {k : Nat} (hk : k < l.length) : ∃ g o', p = some ⟨g, 0, none⟩ ∧ k ≤ cap ∧ SB p k (l.take k) o' ∧ Ctx W w (o' :: S) Φ := by
  have hlen : (l.take k).length = k := by rw [List.length_take]; omega
  cases h with
  | buf =>
    obtain ⟨b, cur, h1, hb, htake, hnc, hcm, hcl, hl⟩ := cx.bufBlk 0 rfl (by rw [strC_len]; omega)
    have e : cur = strC (l.take k) ++ cur.drop k := by
      conv => lhs; rw [← List.take_append_drop k cur]
      congr 1
      have : (cur.take (l.length * 1)).take k = (strC l).take k := by rw [htake]
      rw [Nat.mul_one, List.take_take, Nat.min_eq_left (by omega)] at this
      rw [this, ← List.map_take]
    have hsb := SB.cut b (l.take k) (cur.drop k)
    rw [hlen, ← e] at hsb
    subst h1
    exact ⟨b, _, rfl, by omega, hsb, cx.upd (k := 0) (o' := .blk b cur 9) rfl (Chg.refl _ _) (fun x hx => .inl hx) (Own.nodup _) hb⟩
  | cut g l cs =>
    have hsb := SB.cut g (l.take k) (strC (l.drop k) ++ cs)
    rw [hlen, ← List.append_assoc, ← List.map_append, List.take_append_drop] at hsb
    exact ⟨g, _, rfl, by omega, hsb, cx⟩
theorem SB.app [Stable Φ] (h : SB p cap l o) (cx : Ctx W w (o :: S) Φ) {q : Option Addr} {c2 : Nat} {l2 : List ByteArray} (hsl : ∀ M w, Φ M w → Sl M w q l2) (h0 : 0 < l2.length) (hlen : l.length + l2.length < 100000000) :
    ∃ p' cap' w' o', Sem.run Tryd.prog (builtin Builtin.append #[36, 36] 36 #[false, false] #[.slice p l.length cap, .slice q l2.length c2]) w = .ok (.value (.slice p' (l.length + l2.length) cap')) w' ∧ SB p' cap' (l ++ l2) o' ∧ Ctx W w' (o' :: S) Φ := by
  cases h with
  | buf =>
    obtain ⟨p', cap', w', news, hr, _, c'⟩ := cx.appSl (P := Tryd.prog) (ts := 36) (ty := 36) (kb := #[false, false]) (bytes := 16) (c2 := c2) (by kernel_rfl) str_oneJ hsl h0 hlen (by omega)
    have e := strs_elems c'.phi.2
    subst e
    have hsb := SB.buf p' cap' (l ++ l2)
    rw [List.length_append] at hsb
    refine ⟨p', cap', w', _, hr, hsb, ?_⟩
    rw [show strC (l ++ l2) = strC l ++ strC l2 from List.map_append]
    exact c'.weak fun _ _ h => h.1
  | cut g l cs =>
    obtain ⟨i, z, e1, e2, e3, e4, e5, e6⟩ := appB_out (P := Tryd.prog) (ts := 36) (t := 9) (size := 1) (bytes := 16) (by kernel_rfl)
    obtain ⟨b2, o2, news, hp, g1, g2, g3, g4⟩ := (hsl _ _ cx.phi).cells str_oneJ h0
    have e := strs_elems g3
    subst e
    subst hp
    have holds : ∀ j u, (strC l)[j]? = some u → w.cell? ((⟨g, 0, none⟩ : Addr).add j) = some u := by
      intro j u hj
      rw [addr_add, Nat.zero_add]
      exact cx.get 0 rfl (by rw [List.getElem?_append_left (List.getElem?_eq_some_iff.1 hj).1]; exact hj)
    have hr := run_append_grow (P := Tryd.prog) w 36 36 9 i z e1 e2 e3 ⟨g, 0, none⟩ l.length l.length (strC l) (by rw [e4, strC_len, Nat.mul_one]) holds ⟨b2, o2, none⟩ l2.length c2 (strC l2) (by rw [e4, strC_len, Nat.mul_one]) (fun j u hj => by rw [addr_add]; exact g2 j u hj) (by omega) (by omega) (growslice_fits (by omega) (by rw [e6]; omega))
    have hge := grownCap_ge w (l.length + l2.length) l.length 9
    have hcm : grownCap w (l.length + l2.length) l.length 9 ≤ maxLen := grownCap_le_maxLen w (l.length + l2.length) l.length 9 (by simp only [maxLen]; omega)
    have hsb := SB.buf (some ⟨w.heap.size, 0, none⟩) (grownCap w (l.length + l2.length) l.length 9) (l ++ l2)
    refine ⟨_, _, _, _, run_app hr, hsb, ?_⟩
    refine Ctx.new' (cx.drop1.draw 1) _ _ (by simp [Own.dom]) ⟨by rw [strC_len, Nat.mul_one], .inr ⟨w.heap.size, _, _, by rw [List.length_append], Nat.zero_le _, hp_alloc_new w.drew _, by rw [List.length_append]; exact hge, hcm, ?_, ?_⟩⟩
    · simp only [Array.size_append, List.size_toArray, size_zeroCells, strC_len, e5]
      omega
    · simp only [Array.toList_append, List.append_assoc]
      rw [← List.append_assoc, show strC (l ++ l2) = strC l ++ strC l2 from List.map_append, show (l ++ l2).length * 1 = (strC l ++ strC l2).length by rw [List.length_append, List.length_append, strC_len, strC_len, Nat.mul_one]]
      exact List.take_left
end
end Go.Proofs.YtfccagphnfceiaaDoor
end

/-
  The form of a list; the numbers in the cell; reading a list: walked.
-/
section
set_option linter.unusedVariables false
set_option linter.unusedSimpArgs false
namespace Go.Proofs.YtfccagphnfceiaaDoor
open Go.Vc

section
variable {W w : World} {S G : List Own} {Φ : PW} {p : Option Addr} {cap : Nat} {l : List ByteArray} {o : Own}
theorem form_in [Stable Φ] (hT : ∀ M w, Φ M w → TabI M w) (hsl : ∀ M w, Φ M w → Sl M w p l) (hlen : (formL l).length ≤ 1000000000) : GivesIn Φ Tryd.prog F.journal_form #[.slice p l.length cap] (.string (bs (formL l))) := by
  refine .there (fun M w h => (hsl M w h).there) fun hth => ?_
  have hn := formL_len (l := l) fun x hx => Nat.le_trans (formL_size hx) (by omega)
  refine gives_in (Bjournal_form_run p l.length cap) fun W R => fun b => ?_
  refine exI_mk (fun iI R' Φ' k => ∃ (i : Nat) (Q : List Own), iI = i ∧ i + k = l.length ∧ BdT b (formL (l.take i)) Q ∧ R' = Q ++ R ∧ Φ' = Φ) ⟨?_, ?_⟩
  · refine ⟨_, Φ, l.length, inferInstance, fun w G cx => ?_, 0, [.blk b [.pointer none, .slice none 0 0] 98, .buf none 0 0 (Lib.byteCells []) 5 1], rfl, by omega, Bd.nil, rfl, rfl⟩
    exact Bd.fresh cx
  rintro iI R2 Φ k _ ⟨i, Q, rfl, hik, hQ, rfl, rfl⟩
  refine Br.intro (fun hlt => ?_) (fun hge => fun w G cx => ?_)
  · have hlt : i < l.length := by have := of_decide_eq_true hlt; omega
    obtain ⟨k, rfl⟩ : ∃ m, k = m + 1 := ⟨k - 1, by omega⟩
    obtain ⟨g, o, rfl⟩ := hth (by omega)
    have hsz := formL_size (List.getElem_mem hlt)
    have hstep : formL (l.take (i + 1)) = formL (l.take i) ++ (textB l[i]).data.toList := by
      rw [List.take_succ_eq_append_getElem hlt, formL_app]
      simp [formL]
    have hle : (formL (l.take (i + 1))).length ≤ (formL l).length := by
      have e : formL l = formL (l.take (i + 1)) ++ formL (l.drop (i + 1)) := by rw [← formL_app, List.take_append_drop]
      rw [e, List.length_append]; omega
    refine ⟨⟨by omega, by omega⟩, ptrK_intro g o rfl fun w G cx => ⟨l[i], by rw [Int.toNat_natCast]; exact sl_str (hsl _ _ cx.phi) hlt, fun w G cx => (Text_in (Φ := Φ) (.inl ⟨hT, by unfold I64; omega⟩) (by omega)).use cx fun w cx => ⟨_, rfl, Q ++ R, Φ, inferInstance, cx, fun w G cx => ?_⟩⟩⟩
    refine WriteString_use (textB l[i]) hQ (cx.re (List.append_assoc _ _ _)) (by rw [hstep, List.length_append, list_size] at hle; omega) fun Q' w hQ' cx => ⟨_, _, rfl, Q' ++ R, Φ, inferInstance, by rw [List.append_assoc]; exact cx, by unfold I64; omega, _, Φ, k, inferInstance, fun w G cx => cx, ⟨i + 1, Q', by omega, by omega, ?_, rfl, rfl⟩, Nat.lt_succ_self _⟩
    rw [hstep]; exact hQ'
  · have hge : i = l.length := by have := of_decide_eq_false hge; omega
    subst hge
    rw [List.take_length] at hQ
    exact String_use hQ (cx.re (List.append_assoc _ _ _)) fun w cx => ⟨_, rfl, R, Φ, inferInstance, cx, fun w G cx => ⟨rfl, cx.left⟩⟩

theorem numbers_use [Stable Φ] (hN : ∀ M w, Φ M w → NumI M w) {cb : Nat} {q : DkP} {c : CelS} (hl : c.value.length ≤ 1000000000) (cx : Ctx W w (clO cb q c :: S) Φ) {K : Ending → World → Prop}
    (hk : ∀ w', Ctx W w' (clO cb q c :: S) Φ → K (.returned (.tuple #[.int .i64 (numsJ c).1, .int .i64 (numsJ c).2.1, .bool (numsJ c).2.2])) w') : Calls Tryd.prog F.journal_numbers #[.pointer (some ⟨cb, 0, none⟩)] w K := by
  refine (Bjournal_numbers_run cb 0 (J := fun u w' => K (.returned u) w') cx fun w G cx => CGet_use (S := S ++ G) cx fun w cx => ⟨_, _, rfl, clO cb q c :: S, Φ, inferInstance, cx, Br.intro (fun h => fun w G cx => ?_) (fun h => fun w G cx => ?_)⟩).mono fun e w' ⟨v, he, hj⟩ => by rw [he]; exact hj
  · have h : c.slot = 0 := by
      have : ¬ 0 < c.slot := by simpa using h
      omega
    have e : numsJ c = (0, 0, true) := by unfold numsJ; rw [if_pos h]
    rw [e] at hk
    exact hk w cx.left
  · have h : ¬ c.slot = 0 := by
      have : 0 < c.slot := by simpa using h
      omega
    have e : numsJ c = ((rdNat (c.value, false)).1, (rdNat (rdNat (c.value, false)).2).1, rdDone (rdNat (rdNat (c.value, false)).2).2) := by unfold numsJ; rw [if_neg h]
    rw [e] at hk
    have hlen : (rdNat (c.value, false)).2.1.length ≤ c.value.length := stepN_len 59 0 (c.value, false)
    refine Open_use c.value cx fun b w cx => ⟨_, rfl, rd b (c.value, false) :: clO cb q c :: S, Φ, inferInstance, cx, fun w G cx => RNum_to (S := clO cb q c :: S) hN (by show c.value.length ≤ _; omega) cx (fun w G cx => RNum_to (S := clO cb q c :: S) hN (by omega) cx (fun w G cx => Done_to (S := clO cb q c :: S) cx (fun w G cx => hk w (Ctx.left (Ctx.drop1 cx)))))⟩

theorem read_end [Stable Φ] (hT : ∀ M w, Φ M w → TabI M w) {s : Bs} (hs : s.length ≤ 16777216) {n : Int} {b : Nat} {st : RdS} (hform : st.2 = false → formL l ++ st.1 = s) (cx : Ctx W w ((.buf p l.length cap (strC l) 9 1 :: rd b st :: S) ++ G) Φ) {K : Ending → World → Prop}
    (h0 : ∀ w', endJ s n (l, st) = none → Ctx W w' S Φ → K (.returned (.tuple #[.slice p l.length cap, .bool false])) w')
    (h1 : ∀ w', endJ s n (l, st) = some l → Ctx W w' (.buf p l.length cap (strC l) 9 1 :: S) Φ → K (.returned (.tuple #[.slice p l.length cap, .bool true])) w') :
    Calls Tryd.prog F.wire_Reader_Done #[.pointer (some ⟨b, 0, none⟩)] w fun e w' => ∃ c, e = .returned (.bool c) ∧ ∃ R' Φ', Stable Φ' ∧ Ctx W w' (R' ++ G) Φ' ∧
      Br c (Br (decide ((l.length : Int) = n)) (∀ w G, Ctx W w (R' ++ G) Φ' → Calls Tryd.prog F.journal_form #[.slice p l.length cap] w fun e w' => ∃ s1, e = .returned (.string s1) ∧ ∃ R2 Φ2, Stable Φ2 ∧ Ctx W w' (R2 ++ G) Φ2 ∧ ∀ w G, Ctx W w (R2 ++ G) Φ2 → K (.returned (.tuple #[.slice p l.length cap, .bool (decide (s1 = bs s))])) w)
        (∀ w G, Ctx W w (R' ++ G) Φ' → K (.returned (.tuple #[.slice p l.length cap, .bool false])) w)) (∀ w G, Ctx W w (R' ++ G) Φ' → K (.returned (.tuple #[.slice p l.length cap, .bool false])) w) := by
  refine Done_to (S := .buf p l.length cap (strC l) 9 1 :: S) cx.swap (Br.intro (fun hd => Br.intro (fun hn => fun w G cx => ?_) (fun hn => fun w G cx => ?_)) (fun hd => fun w G cx => ?_))
  · have hst := done_is hd
    subst hst
    have hf := hform rfl
    rw [List.append_nil] at hf
    have he : endJ s n (l, ([], false)) = some l := by unfold endJ; exact if_pos ⟨hd, of_decide_eq_true hn, hf⟩
    have hlen : (formL l).length ≤ 16777216 := by rw [hf]; exact hs
    have hsz : ∀ x ∈ l, x.size ≤ maxLen := fun x hx => Nat.le_trans (formL_size hx) (by unfold maxLen; omega)
    have c2 : Ctx W w ([Own.buf p l.length cap (strC l) 9 1] ++ (rd b ([], false) :: (S ++ G))) Φ := Ctx.swap (S := S ++ G) cx
    have c3 := c2.aside
    refine (form_in (Φ := Go.Vc.Aside W [.buf p l.length cap (strC l) 9 1] Φ) (fun M w h => hT M w h.less) (fun M w h => (SB.buf p cap l).sl hsz h) (by omega)).use c3 fun w c4 => ⟨_, rfl, .buf p l.length cap (strC l) 9 1 :: rd b ([], false) :: S, Φ, inferInstance, c4.unaside, fun w G cx => ?_⟩
    rw [hf, decide_eq_true (rfl : bs s = bs s)]
    exact h1 w he (Ctx.drop1 (Ctx.swap (Ctx.left (S := .buf p l.length cap (strC l) 9 1 :: rd b ([], false) :: S) cx)))
  · have he : endJ s n (l, st) = none := by unfold endJ; exact if_neg fun h => of_decide_eq_false hn h.2.1
    exact h0 w he (Ctx.drop1 (Ctx.drop1 (Ctx.left cx)))
  · have he : endJ s n (l, st) = none := by unfold endJ; exact if_neg fun h => by rw [h.1] at hd; cases hd
    exact h0 w he (Ctx.drop1 (Ctx.drop1 (Ctx.left cx)))

theorem Read_use [Stable Φ] (hN : ∀ M w, Φ M w → NumI M w) {s : Bs} (hs : s.length ≤ 16777216) {n : Int} (cx : Ctx W w S Φ) {K : Ending → World → Prop}
    (h0 : ∀ p k c w', readJ s n = none → Ctx W w' S Φ → K (.returned (.tuple #[.slice p k c, .bool false])) w')
    (h1 : ∀ p cap l o w', readJ s n = some l → SB p cap l o → Ctx W w' (o :: S) Φ → K (.returned (.tuple #[.slice p l.length cap, .bool true])) w') :
    Calls Tryd.prog F.journal_read #[.string (bs s), .int .i64 n] w K := by
  have hT : ∀ M w, Φ M w → TabI M w := fun M w h => (hN M w h).1
  refine (Bjournal_read_run (bs s) n (J := fun u w' => K (.returned u) w') cx fun w G cx => Open_use s cx fun b w cx => ⟨_, rfl, rd b (s, false) :: S, Φ, inferInstance, cx, ?_⟩).mono fun e w' ⟨v, he, hj⟩ => by rw [he]; exact hj
  refine exI_mk (fun p k c R' Φ' m => ∃ (st : RdS) (acc : List ByteArray), k = acc.length ∧ R' = .buf p acc.length c (strC acc) 9 1 :: rd b st :: S ∧ Φ' = Φ ∧ st.1.length < m ∧ acc.length + st.1.length ≤ s.length ∧ (st.2 = false → formL acc ++ st.1 = s) ∧ readJ s n = endJ s n (loopJ m st n acc))
    ⟨⟨.buf none 0 0 (strC []) 9 1 :: rd b (s, false) :: S, Φ, s.length + 1, inferInstance, fun w G cx => cx.nobuf 9 1, (s, false), [], rfl, rfl, rfl, Nat.lt_succ_self _, by simp, fun _ => rfl, rfl⟩, ?_⟩
  rintro p k c R1 Φ m st ⟨rs, acc, rfl, rfl, rfl, hm, hal, hform, hread⟩
  obtain ⟨m, rfl⟩ : ∃ x, m = x + 1 := ⟨m - 1, by omega⟩
  have hfin : ∀ st', (st'.2 = false → formL acc ++ st'.1 = s) → loopJ (m + 1) rs n acc = (acc, st') → ∀ {w : World} {G : List Own}, Ctx W w ((.buf p acc.length c (strC acc) 9 1 :: rd b st' :: S) ++ G) Φ → _ := fun st' hf hlp {w G} cx =>
    read_end (S := S) (G := G) (K := K) (n := n) hT hs hf cx (fun w he cx => h0 p acc.length c w (by rw [hread, hlp]; exact he) cx) (fun w he cx => h1 p c acc _ w (by rw [hread, hlp]; exact he) (SB.buf p c acc) cx)
  refine Br.intro (fun hlt => fun w G cx => ?_) (fun hge => fun w G cx => ?_)
  · have hlt := of_decide_eq_true hlt
    have e : loopJ (m + 1) rs n acc = if rs.1.length ≤ (stepT rs).2.1.length ∨ rs.1 = [] then (acc, (stepT rs).2) else loopJ m (stepT rs).2 n (acc ++ [(stepT rs).1]) := by
      conv => lhs; unfold loopJ
      rw [if_pos hlt]
    have hf2 : (stepT rs).2.2 = false → formL acc ++ ((textB (stepT rs).1).data.toList ++ (stepT rs).2.1) = s := fun hb => by
      obtain ⟨h1, h2⟩ := text_is hb
      rw [← h2]; exact hform h1
    refine Left_to (S := .buf p acc.length c (strC acc) 9 1 :: S) cx.swap (fun w G cx => Text_to (S := .buf p acc.length c (strC acc) 9 1 :: S) hN (by omega) cx (fun w G cx => Left_to (S := .buf p acc.length c (strC acc) 9 1 :: S) cx (Br.intro (fun h2 => fun w G cx => ?_) (fun h2 => Br.intro (fun h3 => fun w G cx => ?_) (fun h3 => fun k w G cx => ?_)))))
    · rw [if_pos (.inl (by have := of_decide_eq_true h2; omega))] at e
      exact hfin (stepT rs).2 (fun hb => by obtain ⟨h1, h2⟩ := text_is hb; exact absurd h1 (by
        intro h3
        have := hf2 hb
        have e2 := congrArg List.length h2
        rw [List.length_append, textB_list, List.length_append, List.length_cons, List.length_append, List.length_singleton] at e2
        have := of_decide_eq_true ‹_›
        omega)) e cx.swap
    · rw [if_pos (.inr (List.eq_nil_of_length_eq_zero (by have := of_decide_eq_true h3; omega)))] at e
      have h0 : rs.1 = [] := List.eq_nil_of_length_eq_zero (by have := of_decide_eq_true h3; omega)
      exact hfin (stepT rs).2 (fun hb => by rw [stepT_nil h0] at hb; cases hb) e cx.swap
    · have h2 := of_decide_eq_false h2
      have h3 := of_decide_eq_false h3
      have hc : ¬ (rs.1.length ≤ (stepT rs).2.1.length ∨ rs.1 = []) := fun h => h.elim (fun h => h2 (by omega)) (fun h => h3 (by rw [h]; rfl))
      rw [if_neg hc] at e
      have cx : Ctx W w (.blk k [.string (stepT rs).1] 9 :: .buf p acc.length c (strC acc) 9 1 :: rd b (stepT rs).2 :: (S ++ G)) Φ := cx.perm (List.Perm.cons _ (List.Perm.swap _ _ _))
      obtain ⟨p', cap', w', hr, _, c2⟩ := cx.app1 (ts := 36) (ty := 36) (kb := #[false, false]) (bytes := 16) (by kernel_rfl) (by decide) rfl rfl (by omega) (by decide)
      have es : strC acc ++ [.string (stepT rs).1] = strC (acc ++ [(stepT rs).1]) := by
        show _ = List.map Value.string (acc ++ [(stepT rs).1])
        rw [List.map_append]; rfl
      have el : acc.length + 1 = (acc ++ [(stepT rs).1]).length := by rw [List.length_append]; rfl
      rw [es, el] at c2
      rw [el] at hr
      refine ⟨p', _, cap', w', hr, .buf p' (acc ++ [(stepT rs).1]).length cap' (strC (acc ++ [(stepT rs).1])) 9 1 :: rd b (stepT rs).2 :: S, Φ, inferInstance, c2, _, Φ, m, inferInstance, fun w G cx => cx, ⟨_, acc ++ [(stepT rs).1], rfl, rfl, rfl, by omega, by rw [← el]; omega, fun hb => ?_, by rw [hread, e]⟩, Nat.lt_succ_self _⟩
      have := hf2 hb
      rw [formL_app, List.append_assoc, show formL [(stepT rs).1] = (textB (stepT rs).1).data.toList by simp [formL]]
      exact this
  · have e : loopJ (m + 1) rs n acc = (acc, rs) := by unfold loopJ; rw [if_neg (of_decide_eq_false hge)]
    exact hfin rs hform e cx
end
end Go.Proofs.YtfccagphnfceiaaDoor
end

/-
  A journal in memory: note, Append: walked.
-/
section
set_option linter.unusedVariables false
set_option linter.unusedSimpArgs false
namespace Go.Proofs.YtfccagphnfceiaaDoor
open Go.Vc

structure JoP where
  jb : Nat
  cb : Nat
  p : Option Addr
  cap : Nat
  o : Own
abbrev joB (x : JoP) (q : DkP) (j : JouS) : List Value := [.pointer (some ⟨q.db, 0, none⟩), .int .i64 j.base, .pointer (some ⟨x.cb, 0, none⟩), .slice x.p j.list.length x.cap, .int .i64 (j.bytes : Int), .bool j.broken]
/-- what a journal owns -/
abbrev JoO (x : JoP) (q : DkP) (j : JouS) : List Own := [x.o, .blk x.jb (joB x q j) 71, clO x.cb q j.cell]
def JoP.mv (x : JoP) (p : Option Addr) (cap : Nat) (o : Own) : JoP := ⟨x.jb, x.cb, p, cap, o⟩

section
variable {W w : World} {S G : List Own} {Φ : PW}
theorem jd_in [Stable Φ] {A X S G : List Own} (cx : Ctx W w ((A ++ (X ++ S)) ++ G) Φ) : Ctx W w (X ++ (A ++ (S ++ G))) Φ := by
  rw [List.append_assoc, List.append_assoc] at cx
  exact cx.perm (perm3 _ _ _ _)
theorem jd_out [Stable Φ] {A X S G : List Own} (cx : Ctx W w (X ++ (A ++ (S ++ G))) Φ) : Ctx W w ((A ++ (X ++ S)) ++ G) Φ := by
  rw [List.append_assoc, List.append_assoc]
  exact cx.perm (perm3 _ _ _ _)
theorem jc_in [Stable Φ] {a b c : Own} {X S G : List Own} (cx : Ctx W w (([a, b, c] ++ (X ++ S)) ++ G) Φ) : Ctx W w (c :: (X ++ (a :: b :: (S ++ G)))) Φ :=
  jd_in (A := [a, b]) (X := c :: X) cx
theorem jc_out [Stable Φ] {a b c : Own} {X S G : List Own} (cx : Ctx W w (c :: (X ++ (a :: b :: (S ++ G)))) Φ) : Ctx W w (([a, b, c] ++ (X ++ S)) ++ G) Φ :=
  jd_out (A := [a, b]) (X := c :: X) cx

theorem Note_use [Stable Φ] {q : DkP} {d : DsS} (hq : DkQ q d) (hkp : DkK Φ q d) (hoff : ∀ M w, Φ M w → OffI M w) (hT : ∀ M w, Φ M w → TabI M w) {x : JoP} {j : JouS} {b n : Nat} (hb : b ≤ 1099511627776) (hn : n ≤ 1099511627776) (cx : Ctx W w (JoO x q j ++ (dkL q d ++ S)) Φ) {K : Ending → World → Prop}
    (hk : ∀ u w', DkQ (q.mv u) (noteS d j b n).1 → Ctx W w' (JoO x q (noteS d j b n).2.1 ++ (dkL (q.mv u) (noteS d j b n).1 ++ S)) Φ → K (.returned (.int .i64 (noteS d j b n).2.2)) w') :
    Calls Tryd.prog F.journal_Journal_note #[.pointer (some ⟨x.jb, 0, none⟩), .int .i64 (b : Int), .int .i64 (n : Int)] w K := by
  have h1 := intB_size (n := (b : Int)) (by unfold I64; omega)
  have h2 := intB_size (n := (n : Int)) (by unfold I64; omega)
  refine (Bjournal_Journal_note_run x.jb 0 (b : Int) (n : Int) (J := fun u w' => K (.returned u) w') cx ⟨_, Φ, inferInstance, fun w G cx => cx, some ⟨x.cb, 0, none⟩, fun w G cx => ⟨_, cx.get 1 rfl rfl, rfl⟩, fun w G cx => (Int_in (Φ := Φ) (.inl ⟨hT, by unfold I64; omega⟩)).use cx fun w cx => ⟨_, rfl, _, Φ, inferInstance, cx, fun w G cx => cx, fun w G cx => (Int_in (Φ := Φ) (.inl ⟨hT, by unfold I64; omega⟩)).use cx fun w cx => ⟨_, rfl, _, Φ, inferInstance, cx, fun w G cx => cx, by show (intB (b : Int)).size + (intB (n : Int)).size ≤ _; omega, fun w G cx => ?_⟩⟩⟩).mono fun e w' ⟨v, he, hj⟩ => by rw [he]; exact hj
  have e : intB (b : Int) ++ intB (n : Int) = bs (encB b n) := by
    apply ByteArray.ext
    apply Array.toList_inj.1
    simp [encB, bs]
  rw [e]
  unfold noteS at hk
  refine CSet_use (S := x.o :: .blk x.jb (joB x q j) 71 :: (S ++ G)) hq hkp hoff (jc_in cx) fun u w hq1 cx => ?_
  generalize setC d j.cell (encB b n) = r at hk hq1 cx
  obtain ⟨d1, c1, e1⟩ := r
  simp only at hk hq1 cx
  refine ⟨e1, rfl, [x.o, .blk x.jb (joB x q j) 71, clO x.cb q c1] ++ (dkL (q.mv u) d1 ++ S), Φ, inferInstance, jc_out cx, fun w G cx => ⟨cx.can 1 rfl (by show 5 + 1 ≤ 6; omega), fun w' hw' => ?_⟩⟩
  exact ⟨_, Φ, inferInstance, cx.put 1 hw' rfl, fun w G cx => hk u w hq1 (Ctx.left cx)⟩
end
end Go.Proofs.YtfccagphnfceiaaDoor
end

/-
  A journal in memory: Append: walked.
-/
section
set_option linter.unusedVariables false
set_option linter.unusedSimpArgs false
namespace Go.Proofs.YtfccagphnfceiaaDoor
open Go.Vc

theorem log_keep (d : DsS) (j : JouS) (l : List ByteArray) : (logS d j l).1.keep = d.keep := by
  unfold logS; split
  · rw [sync_keep, write_keep]
  · exact write_keep _ _ _ _
theorem setC2_keep (d : DsS) (c : CelS) (s : Bs) (n : Nat) : (setC2 d c s n).1.keep = d.keep := by
  unfold setC2
  repeat' split
  all_goals simp only [sync_keep, write_keep]
theorem setC_keep (d : DsS) (c : CelS) (s : Bs) : (setC d c s).1.keep = d.keep := by
  unfold setC
  repeat' split
  all_goals simp only [sync_keep, setC2_keep]
theorem note_keep (d : DsS) (j : JouS) (b n : Nat) : (noteS d j b n).1.keep = d.keep := setC_keep _ _ _

section
variable {W w : World} {S G : List Own} {Φ : PW}
theorem Append_use [Stable Φ] {q : DkP} {d : DsS} (hq : DkQ q d) (hkp : DkK Φ q d) (hoff : ∀ M w, Φ M w → OffI M w) (hT : ∀ M w, Φ M w → TabI M w) {x : JoP} {j : JouS} (hsb : SB x.p x.cap j.list x.o) {lp : Option Addr} {lc : Nat} {l : List ByteArray}
    (hsl : ∀ M w, Φ M w → Sl M w lp l) (hf : (formL l).length ≤ 1000000000) (hb : j.bytes ≤ 1000000000) (hn : j.list.length + l.length < 100000000) (cx : Ctx W w (JoO x q j ++ (dkL q d ++ S)) Φ) {K : Ending → World → Prop}
    (hk : ∀ u p c o w', SB p c (appendS d j l).2.1.list o → DkQ (q.mv u) (appendS d j l).1 → Ctx W w' (JoO (x.mv p c o) q (appendS d j l).2.1 ++ (dkL (q.mv u) (appendS d j l).1 ++ S)) Φ → K (.returned (.int .i64 (appendS d j l).2.2)) w') :
    Calls Tryd.prog F.journal_Journal_Append #[.pointer (some ⟨x.jb, 0, none⟩), .slice lp l.length lc] w K := by
  have hsame : ∀ {e : Int} {w' : World} {G : List Own}, appendS d j l = (d, j, e) → Ctx W w' ((JoO x q j ++ (dkL q d ++ S)) ++ G) Φ → K (.returned (.int .i64 e)) w' := by
    intro e w' G he cx
    rw [he] at hk
    exact hk q.un x.p x.cap x.o w' hsb hq (Ctx.left cx)
  refine (Bjournal_Journal_Append_run x.jb 0 lp l.length lc (J := fun u w' => K (.returned u) w') cx fun w G cx => (form_in (Φ := Φ) hT hsl hf).use cx fun w cx => ⟨_, rfl, _, Φ, inferInstance, cx, fun w G cx => ⟨_, cx.get 1 rfl rfl, Br.intro (fun h => fun w G cx => ?_) (fun h => Br.intro (fun h2 => fun w G cx => ?_) (fun h2 => fun w G cx => ⟨(j.bytes : Int), cx.get 1 rfl rfl, ?_, Br.intro (fun h3 => fun w G cx => ?_) (fun h3 => ?_)⟩))⟩⟩).mono fun e w' ⟨v, he, hj⟩ => by rw [he]; exact hj
  · exact hsame (by unfold appendS; rw [if_pos h]) cx
  · exact hsame (by unfold appendS; rw [if_neg (by rw [h]; simp), if_pos (List.eq_nil_of_length_eq_zero (by have := of_decide_eq_true h2; omega))]) cx
  · rw [bs_size]; unfold I64; omega
  all_goals rw [bs_size] at *
  all_goals have h : ¬ j.broken = true := by rw [h]; simp
  all_goals have h2 : ¬ l = [] := fun e => of_decide_eq_false h2 (by rw [e]; rfl)
  · exact hsame (by unfold appendS; rw [if_neg h, if_neg h2, if_pos (by have := of_decide_eq_true h3; omega)]) cx
  have h3 : ¬ 1048576 < j.bytes + (formL l).length := by have := of_decide_eq_false h3; omega
  have happ : appendS d j l = if (logS d j l).2 ≠ 0 then ((logS d j l).1, { j with broken := true }, (logS d j l).2) else gotS j (j.list ++ l) (j.bytes + (formL l).length) (noteS (logS d j l).1 j (j.bytes + (formL l).length) (j.list.length + l.length)) := by
    unfold appendS; rw [if_neg h, if_neg h2, if_neg h3]
  rw [happ] at hk
  have hlk := log_keep d j l
  have hlog : logS d j l = if (writeS d j.base j.bytes (formL l)).2 = 0 then syncS (writeS d j.base j.bytes (formL l)).1 j.base else writeS d j.base j.bytes (formL l) := rfl
  clear happ hsame
  refine ⟨_, Φ, inferInstance, fun w G cx => cx, some ⟨q.db, 0, none⟩, fun w G cx => ⟨_, cx.get 1 rfl rfl, rfl⟩, j.base, fun w G cx => ⟨_, cx.get 1 rfl rfl, rfl⟩, (j.bytes : Int), fun w G cx => ⟨_, cx.get 1 rfl rfl, rfl⟩, fun w G cx => ?_⟩
  have hwk := write_keep d j.base j.bytes (formL l)
  refine Write_use (S := JoO x q j ++ (S ++ G)) hq hkp (by omega) (jd_in cx) fun u w hq1 cx => ?_
  generalize writeS d j.base j.bytes (formL l) = r at hlog hq1 cx hwk
  obtain ⟨d1, e1⟩ := r
  simp only at hlog hq1 cx hwk
  refine ⟨e1, rfl, JoO x q j ++ (dkL (q.mv u) d1 ++ S), Φ, inferInstance, jd_out cx, ?_⟩
  refine exI_mk (fun n R' Φ' => ∃ u, n = (logS d j l).2 ∧ R' = JoO x q j ++ (dkL (q.mv u) (logS d j l).1 ++ S) ∧ Φ' = Φ ∧ DkQ (q.mv u) (logS d j l).1) ⟨Br.intro (fun h4 => ?_) (fun h4 => ?_), ?_⟩
  · rw [if_pos (of_decide_eq_true h4)] at hlog
    refine ⟨_, Φ, inferInstance, fun w G cx => cx, some ⟨q.db, 0, none⟩, fun w G cx => ⟨_, cx.get 1 rfl rfl, rfl⟩, j.base, fun w G cx => ⟨_, cx.get 1 rfl rfl, rfl⟩, fun w G cx => ?_⟩
    refine Sync_use (q := q.mv u) (S := JoO x q j ++ (S ++ G)) hq1 (hkp.of hwk u) (jd_in cx) fun u w hq2 cx => ⟨_, rfl, JoO x q j ++ (dkL (q.mv u) (syncS d1 j.base).1 ++ S), Φ, inferInstance, jd_out cx, _, Φ, inferInstance, fun w G cx => cx, u, by rw [hlog], by rw [hlog], rfl, by rw [hlog]; exact hq2⟩
  · rw [if_neg (of_decide_eq_false h4)] at hlog
    exact ⟨_, Φ, inferInstance, fun w G cx => cx, u, by rw [hlog], by rw [hlog], rfl, by rw [hlog]; exact hq1⟩
  clear hlog hq1 cx hwk
  rintro n R1 Φ st ⟨u, rfl, rfl, rfl, hq1⟩
  generalize logS d j l = r at hk hq1 hlk
  obtain ⟨d1, e1⟩ := r
  simp only at hk hq1 hlk ⊢
  refine Br.intro (fun h4 => fun w G cx => ⟨cx.can 1 rfl (by show 5 + 1 ≤ 6; omega), fun w' hw' => ?_⟩) (fun h4 => ?_)
  · rw [if_pos (of_decide_eq_true h4)] at hk
    exact ⟨JoO x q { j with broken := true } ++ (dkL (q.mv u) d1 ++ S), Φ, inferInstance, cx.put 1 hw' rfl, fun w G cx => hk u x.p x.cap x.o w hsb hq1 (Ctx.left cx)⟩
  rw [if_neg (of_decide_eq_false h4)] at hk
  refine ⟨_, Φ, inferInstance, fun w G cx => cx, (j.bytes : Int), fun w G cx => ⟨_, cx.get 1 rfl rfl, rfl⟩, x.p, j.list.length, x.cap, fun w G cx => ⟨_, _, _, cx.get 1 rfl rfl, rfl⟩, by unfold I64; omega, by unfold I64; omega, fun w G cx => ?_⟩
  rw [← Int.natCast_add, ← Int.natCast_add]
  have hnk := note_keep d1 j (j.bytes + (formL l).length) (j.list.length + l.length)
  refine Note_use (S := S ++ G) (q := q.mv u) hq1 (hkp.of hlk u) hoff hT (by omega) (by omega) (by rw [← List.append_assoc (dkL _ _), ← List.append_assoc]; exact cx) fun u w hq2 cx => ?_
  have hnl : (noteS d1 j (j.bytes + (formL l).length) (j.list.length + l.length)).2.1.list = j.list := rfl
  have hnb : (noteS d1 j (j.bytes + (formL l).length) (j.list.length + l.length)).2.1.bytes = j.bytes := rfl
  generalize noteS d1 j (j.bytes + (formL l).length) (j.list.length + l.length) = r at hk hq2 cx hnk hnl hnb
  obtain ⟨d2, j2, e2⟩ := r
  simp only at hk hq2 cx hnk hnl hnb
  refine ⟨e2, rfl, JoO x q j2 ++ (dkL (q.mv u) d2 ++ S), Φ, inferInstance, by rw [← List.append_assoc (dkL _ _), ← List.append_assoc] at cx; exact cx, Br.intro (fun h5 => fun w G cx => ?_) (fun h5 => ?_)⟩
  · have e : gotS j (j.list ++ l) (j.bytes + (formL l).length) (d2, j2, e2) = (d2, j2, e2) := by unfold gotS; rw [if_pos (of_decide_eq_true h5)]
    rw [e] at hk
    exact hk u x.p x.cap x.o w (by rw [hnl]; exact hsb) hq2 (Ctx.left cx)
  have e : gotS j (j.list ++ l) (j.bytes + (formL l).length) (d2, j2, e2) = (d2, { j2 with list := j.list ++ l, bytes := j.bytes + (formL l).length }, 0) := by unfold gotS; rw [if_neg (of_decide_eq_false h5)]
  rw [e] at hk
  have hsub : ∀ {o1 o2 o3 : Own} {X : List Own}, [o2].Sublist ([o1, o2, o3] ++ X) := fun {o1 o2 o3 X} => .cons _ (.cons_cons _ (List.nil_sublist _))
  refine ⟨[], tru, inferInstance, fun w G cx => cut_to cx (List.nil_sublist _), [.blk x.jb (joB x q j2) 71], tru, inferInstance, fun w G cx => cut_to cx hsub, fun w G cx => ⟨_, _, _, cx.get 1 rfl rfl, (j.bytes : Int), fun w G cx => ⟨(j2.bytes : Int), cx.get 0 rfl rfl, by rw [hnb]⟩, by unfold I64; omega, fun w G cx => ?_⟩⟩
  rw [hnl]
  obtain ⟨p', cap', w', o', hr, hsb', c2⟩ := hsb.app (c2 := lc) (S := .blk x.jb (joB x q j2) 71 :: clO x.cb q j2.cell :: ((dkL (q.mv u) d2 ++ S) ++ G)) cx hsl (List.length_pos_iff.2 h2) hn
  refine ⟨p', _, cap', w', hr, [o', .blk x.jb (joB x q j2) 71, clO x.cb q j2.cell] ++ (dkL (q.mv u) d2 ++ S), Φ, inferInstance, c2, fun w G cx => cut_to cx (List.nil_sublist _), fun w G cx => cut_to cx hsub, fun w G cx => ⟨cx.can 1 rfl (by show 3 + 1 ≤ 6; omega), fun w' hw' => ?_⟩⟩
  refine ⟨[o', .blk x.jb ((joB x q j2).set 3 (.slice p' (j.list.length + l.length) cap')) 71, clO x.cb q j2.cell] ++ (dkL (q.mv u) d2 ++ S), Φ, inferInstance, cx.put 1 hw' rfl, fun w G cx => cut_to cx (List.nil_sublist _), trivial, fun w G cx => ⟨cx.can 1 rfl (by show 4 + 1 ≤ 6; omega), fun w' hw' => ?_⟩⟩
  rw [← Int.natCast_add] at hw'
  refine ⟨[o', .blk x.jb (((joB x q j2).set 3 (.slice p' (j.list.length + l.length) cap')).set 4 (.int .i64 ((j.bytes + (formL l).length : Nat) : Int))) 71, clO x.cb q j2.cell] ++ (dkL (q.mv u) d2 ++ S), Φ, inferInstance, cx.put 1 hw' rfl, fun w G cx => cut_to cx (List.nil_sublist _), trivial, fun w G cx => ?_⟩
  refine hk u p' cap' o' w hsb' hq2 ?_
  have e3 : joB (x.mv p' cap' o') q { j2 with list := j.list ++ l, bytes := j.bytes + (formL l).length } = ((joB x q j2).set 3 (.slice p' (j.list.length + l.length) cap')).set 4 (.int .i64 ((j.bytes + (formL l).length : Nat) : Int)) := by
    show [_, _, _, Value.slice p' (j.list ++ l).length cap', _, _] = _
    rw [List.length_append]; rfl
  show Ctx W w (o' :: .blk x.jb (joB (x.mv p' cap' o') q { j2 with list := j.list ++ l, bytes := j.bytes + (formL l).length }) 71 :: _) Φ
  rw [e3]
  exact Ctx.left cx
end
end Go.Proofs.YtfccagphnfceiaaDoor
end

/-
  A journal in memory: Cut, Len, Get, All: walked.
-/
section
set_option linter.unusedVariables false
set_option linter.unusedSimpArgs false
namespace Go.Proofs.YtfccagphnfceiaaDoor
open Go.Vc

section
variable {W w : World} {S G : List Own} {Φ : PW}
theorem Cut_use [Stable Φ] {q : DkP} {d : DsS} (hq : DkQ q d) (hkp : DkK Φ q d) (hoff : ∀ M w, Φ M w → OffI M w) (hT : ∀ M w, Φ M w → TabI M w) {x : JoP} {j : JouS} (hsb : SB x.p x.cap j.list x.o) {n : Int}
    (hf : (formL j.list).length ≤ 1000000000) (cx : Ctx W w (JoO x q j ++ (dkL q d ++ S)) Φ) {K : Ending → World → Prop}
    (hk : ∀ u p c o w', SB p c (cutS d j n).2.1.list o → DkQ (q.mv u) (cutS d j n).1 → Ctx W w' (JoO (x.mv p c o) q (cutS d j n).2.1 ++ (dkL (q.mv u) (cutS d j n).1 ++ S)) Φ → K (.returned (.int .i64 (cutS d j n).2.2)) w') :
    Calls Tryd.prog F.journal_Journal_Cut #[.pointer (some ⟨x.jb, 0, none⟩), .int .i64 n] w K := by
  have hsame : ∀ {e : Int} {w' : World} {G : List Own}, cutS d j n = (d, j, e) → Ctx W w' ((JoO x q j ++ (dkL q d ++ S)) ++ G) Φ → K (.returned (.int .i64 e)) w' := by
    intro e w' G he cx
    rw [he] at hk
    exact hk q.un x.p x.cap x.o w' hsb hq (Ctx.left cx)
  have hl := formL_len (l := j.list) fun x hx => Nat.le_trans (formL_size hx) (by omega)
  refine (Bjournal_Journal_Cut_run x.jb 0 n (J := fun u w' => K (.returned u) w') cx fun w G cx => ⟨_, cx.get 1 rfl rfl, Br.intro (fun h => fun w G cx => ?_) (fun h => fun w G cx => ⟨_, _, _, fun _ => cx.get 1 rfl rfl, Br.intro (fun h2 => fun w G cx => ?_) (fun h2 => fun w G cx => ⟨_, _, _, cx.get 1 rfl rfl, Br.intro (fun h3 => fun w G cx => ?_) (fun h3 => fun w G cx => ⟨_, _, _, cx.get 1 rfl rfl, ?_⟩)⟩)⟩)⟩).mono fun e w' ⟨v, he, hj⟩ => by rw [he]; exact hj
  · exact hsame (by unfold cutS; rw [if_pos h]) cx
  all_goals have h : ¬ j.broken = true := by rw [h]; simp
  · have h2 : n < 0 ∨ (j.list.length : Int) < n := by simpa using h2
    exact hsame (by unfold cutS; rw [if_neg h, if_pos h2]) cx
  all_goals have h2 : ¬ (n < 0 ∨ (j.list.length : Int) < n) := by simpa using h2
  · exact hsame (by unfold cutS; rw [if_neg h, if_neg h2, if_pos (of_decide_eq_true h3)]) cx
  have h3 := of_decide_eq_false h3
  obtain ⟨k, rfl⟩ : ∃ k : Nat, n = k := ⟨n.toNat, by omega⟩
  have hk2 : k < j.list.length := by omega
  have hcut : cutS d j (k : Int) = gotS j (j.list.take k) (formL (j.list.take k)).length (noteS d j (formL (j.list.take k)).length k) := by
    unfold cutS; rw [if_neg h, if_neg h2, if_neg h3, Int.toNat_natCast]
  rw [hcut] at hk
  clear hcut hsame
  obtain ⟨g, o2, hp, hcap, _, _⟩ := hsb.cutAt (k := k) (S := .blk x.jb (joB x q j) 71 :: clO x.cb q j.cell :: ((dkL q d ++ S) ++ G)) cx hk2
  have hle : (formL (j.list.take k)).length ≤ (formL j.list).length := by
    have e : formL j.list = formL (j.list.take k) ++ formL (j.list.drop k) := by rw [← formL_app, List.take_append_drop]
    rw [e, List.length_append]; omega
  have hsz : ∀ y ∈ j.list, y.size ≤ maxLen := fun y hy => Nat.le_trans (formL_size hy) (by unfold maxLen; omega)
  have hkl : (j.list.take k).length = k := by rw [List.length_take]; omega
  refine ⟨⟨by omega, by omega⟩, fun w G cx => ?_⟩
  have c2 : Ctx W w ([x.o] ++ (.blk x.jb (joB x q j) 71 :: clO x.cb q j.cell :: ((dkL q d ++ S) ++ G))) Φ := cx
  have hform := form_in (Φ := Go.Vc.Aside W [x.o] Φ) (p := x.p) (cap := x.cap) (l := j.list.take k) (fun M w h => hT M w h.less) (fun M w h => sl_take (hsb.sl hsz h) k) (by omega)
  rw [hkl] at hform
  rw [show subPtr x.p 1 0 x.cap = x.p by rw [hp]; exact subPtr_zero _ _ _, Int.toNat_natCast]
  refine hform.use c2.aside fun w c3 => ⟨_, rfl, JoO x q j ++ (dkL q d ++ S), Φ, inferInstance, c3.unaside, fun w G cx => ?_⟩
  have hnk := note_keep d j (formL (j.list.take k)).length k
  rw [bs_size]
  refine Note_use (S := S ++ G) hq hkp hoff hT (by omega) (by omega) (by rw [← List.append_assoc (dkL _ _), ← List.append_assoc]; exact cx) fun u w hq2 cx => ?_
  have hnl : (noteS d j (formL (j.list.take k)).length k).2.1.list = j.list := rfl
  generalize noteS d j (formL (j.list.take k)).length k = r at hk hq2 cx hnk hnl
  obtain ⟨d2, j2, e2⟩ := r
  simp only at hk hq2 cx hnk hnl
  refine ⟨e2, rfl, JoO x q j2 ++ (dkL (q.mv u) d2 ++ S), Φ, inferInstance, by rw [← List.append_assoc (dkL _ _), ← List.append_assoc] at cx; exact cx, Br.intro (fun h5 => fun w G cx => ?_) (fun h5 => fun w G cx => ⟨x.p, j2.list.length, x.cap, cx.get 1 rfl rfl, ⟨by omega, by omega, by omega⟩, fun w G cx => ⟨cx.can 1 rfl (by show 3 + 1 ≤ 6; omega), fun w' hw' => ?_⟩⟩)⟩
  · have e : gotS j (j.list.take k) (formL (j.list.take k)).length (d2, j2, e2) = (d2, j2, e2) := by unfold gotS; rw [if_pos (of_decide_eq_true h5)]
    rw [e] at hk
    exact hk u x.p x.cap x.o w (by rw [hnl]; exact hsb) hq2 (Ctx.left cx)
  have e : gotS j (j.list.take k) (formL (j.list.take k)).length (d2, j2, e2) = (d2, { j2 with list := j.list.take k, bytes := (formL (j.list.take k)).length }, 0) := by unfold gotS; rw [if_neg (of_decide_eq_false h5)]
  rw [e] at hk
  rw [show subPtr x.p 1 0 k = x.p by rw [hp]; exact subPtr_zero _ _ _] at hw'
  refine ⟨[x.o, .blk x.jb ((joB x q j2).set 3 (.slice x.p k k)) 71, clO x.cb q j2.cell] ++ (dkL (q.mv u) d2 ++ S), Φ, inferInstance, cx.put 1 hw' rfl, fun w G cx => ⟨cx.can 1 rfl (by show 4 + 1 ≤ 6; omega), fun w' hw' => ?_⟩⟩
  refine ⟨[x.o, .blk x.jb (((joB x q j2).set 3 (.slice x.p k k)).set 4 (.int .i64 ((formL (j.list.take k)).length : Int))) 71, clO x.cb q j2.cell] ++ (dkL (q.mv u) d2 ++ S), Φ, inferInstance, cx.put 1 hw' rfl, fun w G cx => ?_⟩
  have cx := Ctx.left cx
  obtain ⟨g3, o3, hp3, _, hsb3, c4⟩ := hsb.cutAt (k := k) (S := .blk x.jb (((joB x q j2).set 3 (.slice x.p k k)).set 4 (.int .i64 ((formL (j.list.take k)).length : Int))) 71 :: clO x.cb q j2.cell :: (dkL (q.mv u) d2 ++ S)) cx hk2
  refine hk u x.p k o3 w hsb3 hq2 ?_
  have e3 : joB (x.mv x.p k o3) q { j2 with list := j.list.take k, bytes := (formL (j.list.take k)).length } = ((joB x q j2).set 3 (.slice x.p k k)).set 4 (.int .i64 ((formL (j.list.take k)).length : Int)) := by
    show [_, _, _, Value.slice x.p (j.list.take k).length k, _, _] = _
    rw [hkl]; rfl
  show Ctx W w (o3 :: .blk x.jb (joB (x.mv x.p k o3) q { j2 with list := j.list.take k, bytes := (formL (j.list.take k)).length }) 71 :: _) Φ
  rw [e3]
  exact c4

theorem Len_use [Stable Φ] {q : DkP} {x : JoP} {j : JouS} (cx : Ctx W w (JoO x q j ++ S) Φ) {K : Ending → World → Prop} (hk : ∀ w', Ctx W w' (JoO x q j ++ S) Φ → K (.returned (.int .i64 (j.list.length : Int))) w') :
    Calls Tryd.prog F.journal_Journal_Len #[.pointer (some ⟨x.jb, 0, none⟩)] w K := by
  refine (Bjournal_Journal_Len_run x.jb 0 (J := fun u w' => K (.returned u) w') cx fun w G cx => ⟨_, _, _, cx.get 1 rfl rfl, fun w G cx => hk w (Ctx.left cx)⟩).mono fun e w' ⟨v, he, hj⟩ => by rw [he]; exact hj
def getJ (l : List ByteArray) (i : Int) : ByteArray := if i < 0 ∨ (l.length : Int) ≤ i then ByteArray.mk #[] else l.getD i.toNat (ByteArray.mk #[])
theorem JGet_use [Stable Φ] {q : DkP} {x : JoP} {j : JouS} (hsb : SB x.p x.cap j.list x.o) {i : Int} (cx : Ctx W w (JoO x q j ++ S) Φ) {K : Ending → World → Prop} (hk : ∀ w', Ctx W w' (JoO x q j ++ S) Φ → K (.returned (.string (getJ j.list i))) w') :
    Calls Tryd.prog F.journal_Journal_Get #[.pointer (some ⟨x.jb, 0, none⟩), .int .i64 i] w K := by
  unfold getJ at hk
  have hp : 0 < j.list.length → ∃ g, x.p = some ⟨g, 0, none⟩ := fun h => by
    obtain ⟨g, hg, _⟩ := hsb.get (S := .blk x.jb (joB x q j) 71 :: clO x.cb q j.cell :: S) cx h
    exact ⟨g, hg⟩
  refine (Bjournal_Journal_Get_run x.jb 0 i (J := fun u w' => K (.returned u) w') cx fun w G cx => ⟨_, _, _, fun _ => cx.get 1 rfl rfl, Br.intro (fun h => fun w G cx => ?_) (fun h => fun w G cx => ⟨_, _, _, cx.get 1 rfl rfl, ?_⟩)⟩).mono fun e w' ⟨v, he, hj⟩ => by rw [he]; exact hj
  · have h : i < 0 ∨ (j.list.length : Int) ≤ i := by simpa using h
    rw [if_pos h] at hk
    exact hk w (Ctx.left cx)
  · have h : ¬ (i < 0 ∨ (j.list.length : Int) ≤ i) := by simpa using h
    rw [if_neg h] at hk
    obtain ⟨g, hg⟩ := hp (by omega)
    refine ⟨⟨by omega, by omega⟩, ptrK_intro g 0 hg fun w G cx => ?_⟩
    have hi : i.toNat < j.list.length := by omega
    obtain ⟨g2, hg2, hc⟩ := hsb.get (S := .blk x.jb (joB x q j) 71 :: clO x.cb q j.cell :: (S ++ G)) cx hi
    rw [hg] at hg2
    cases hg2
    refine ⟨j.list[i.toNat], by rw [Nat.zero_add]; exact hc, fun w G cx => ?_⟩
    rw [List.getD_eq_getElem?_getD, List.getElem?_eq_getElem hi] at hk
    exact hk w (Ctx.left cx)
end
end Go.Proofs.YtfccagphnfceiaaDoor
end

/-
  A journal in memory: All, Open: walked.
-/
section
set_option linter.unusedVariables false
set_option linter.unusedSimpArgs false
namespace Go.Proofs.YtfccagphnfceiaaDoor
open Go.Vc

theorem run_copy0 {P : Program} (w : World) (dT sT ty elem : TypeId) {i : TypeInfo} (hu : P.underlying dT = some (.slice elem)) (hi : P.info? elem = some i) (b : Nat) (q : Option Addr) (c : Nat) :
    (Builtin.copy_ #[dT, sT] ty #[.slice (some ⟨b, 0, none⟩) 0 0, .slice q 0 c]).run P w = .ok (Go.goInt 0) w := by
  simp [Builtin.copy_, run_underlying hu, Builtin.lenOf, Builtin.firstCells, sizeOf, typeInfo, hi]
  cases q <;> simp [loadCells, loadCellsFrom, storeCells, Result.andThen]
section
variable {W w : World} {S G : List Own} {Φ : PW}
/-- copy strings into a block of as many cells -/
theorem copy_strs [Stable Φ] {p : Option Addr} {cap : Nat} {l : List ByteArray} {o : Own} {b : Nat} (hsb : SB p cap l o) (cx : Ctx W w (.blk b (List.replicate l.length (Value.string (ByteArray.mk #[]))) 9 :: o :: S) Φ) :
    ∃ w', Sem.run Tryd.prog (builtin Builtin.copy #[36, 36] 3 #[false, false] #[.slice (some ⟨b, 0, none⟩) l.length l.length, .slice p l.length cap]) w = .ok (.value (.int .i64 l.length)) w' ∧ Ctx W w' (.blk b (strC l) 9 :: o :: S) Φ := by
  obtain ⟨i, z, e1, e2, e3, e4, e5, e6⟩ := appB_out (P := Tryd.prog) (ts := 36) (t := 9) (size := 1) (bytes := 16) (by kernel_rfl)
  by_cases h : l = []
  · subst h
    exact ⟨w, run_cpy (run_copy0 w _ _ _ _ e1 e2 b p cap), cx⟩
  · have hpos := List.length_pos_iff.2 h
    have cx2 := cx.swap
    obtain ⟨g, hg, _⟩ := hsb.get cx2 hpos
    subst hg
    have hsrc : ∀ j v, (strC l)[j]? = some v → w.cell? ((⟨g, 0, none⟩ : Addr).add j) = some v := fun j v hj => by
      have hjl : j < l.length := by have := (List.getElem?_eq_some_iff.1 hj).1; rw [strC_len] at this; exact this
      obtain ⟨g2, hg2, hc⟩ := hsb.get cx2 hjl
      cases hg2
      rw [List.getElem?_map, List.getElem?_eq_getElem hjl] at hj
      rw [addr_add, Nat.zero_add, hc]
      exact hj
    have hcan : CanWrite w b 0 l.length := cx.can 0 rfl (by rw [List.length_replicate]; omega)
    have hr := run_copyN (P := Tryd.prog) w 36 36 3 9 b 0 l.length l.length ⟨g, 0, none⟩ l.length cap (strC l) e1 e2 (by rw [e4, strC_len, Nat.mul_one]; exact (Nat.min_self _).symm) hsrc (fun j hj => (hcan j (by rw [strC_len] at hj; exact hj)).1) (fun j hj => (hcan j (by rw [strC_len] at hj; exact hj)).2) (fun v hv => by
      obtain ⟨y, _, rfl⟩ := List.mem_map.1 hv; rfl)
    rw [show Nat.min l.length l.length = l.length from Nat.min_self _] at hr
    refine ⟨_, run_cpy hr, ?_⟩
    have c3 := cx.puts 0 rfl (b := b) (i := 0) (vs := strC l) rfl
    rw [setL_eq _ _ _ (by rw [strC_len, List.length_replicate]; omega), List.take_zero, List.nil_append, strC_len, Nat.zero_add, List.drop_eq_nil_of_le (by rw [List.length_replicate]; omega), List.append_nil] at c3
    exact c3
theorem All_use [Stable Φ] {q : DkP} {x : JoP} {j : JouS} (hsb : SB x.p x.cap j.list x.o) (hl : j.list.length ≤ 1000000000) (cx : Ctx W w (JoO x q j ++ S) Φ) {K : Ending → World → Prop}
    (hk : ∀ b w', Ctx W w' (.blk b (strC j.list) 9 :: (JoO x q j ++ S)) Φ → K (.returned (.slice (some ⟨b, 0, none⟩) j.list.length j.list.length)) w') :
    Calls Tryd.prog F.journal_Journal_All #[.pointer (some ⟨x.jb, 0, none⟩)] w K := by
  refine (Bjournal_Journal_All_run x.jb 0 (J := fun u w' => K (.returned u) w') cx fun w G cx => ⟨_, _, _, cx.get 1 rfl rfl, ⟨by omega, by omega, by omega, by omega⟩, fun b w G cx => ⟨_, _, _, cx.get 2 rfl rfl, fun w G cx => ?_⟩⟩).mono fun e w' ⟨v, he, hj⟩ => by rw [he]; exact hj
  rw [Int.toNat_natCast] at cx ⊢
  obtain ⟨w', hr, c2⟩ := copy_strs (S := .blk x.jb (joB x q j) 71 :: clO x.cb q j.cell :: (S ++ G)) hsb cx
  exact ⟨_, w', hr, .blk b (strC j.list) 9 :: (JoO x q j ++ S), Φ, inferInstance, c2, fun w G cx => hk b w (Ctx.left cx)⟩

def restJ (base : Int) : Nat → DsS → DsS × Option JouS × Int
  | 0, d => (d, openJ1 d base)
  | k + 1, d => if (syncS d (if k = 0 then base + 1 else base)).2 ≠ 0 then ((syncS d (if k = 0 then base + 1 else base)).1, none, (syncS d (if k = 0 then base + 1 else base)).2) else restJ base k (syncS d (if k = 0 then base + 1 else base)).1
theorem openJ_rest {d : DsS} {base : Int} (h : ¬ (base < 0 ∨ 14 < base)) : openJ d base = restJ base 2 d := by
  unfold openJ; rw [if_neg h]; rfl
theorem openC_none {d : DsS} {f e : Int} (h : openC d f = (none, e)) : e ≠ 0 := by
  unfold openC at h
  repeat' split at h
  all_goals first
    | (cases h; assumption)
    | (cases h; decide)
    | cases h
theorem openC_value {d : DsS} {q : DkP} (hq : DkQ q d) {f e : Int} {c : CelS} (h : openC d f = (some c, e)) : c.value.length ≤ 16777216 ∧ e = 0 := by
  unfold openC at h
  repeat' split at h
  all_goals first
    | (cases h; exact ⟨Nat.zero_le _, rfl⟩)
    | (cases h; exact ⟨read_len hq _ _ _, rfl⟩)
    | cases h
theorem JOpen_use [Stable Φ] {q : DkP} {d : DsS} (hq : DkQ q d) (hkp : DkK Φ q d) (hoff : ∀ M w, Φ M w → OffI M w) (hN : ∀ M w, Φ M w → NumI M w) {base : Int} (cx : Ctx W w (dkL q d ++ S) Φ) {K : Ending → World → Prop}
    (hn : ∀ u d' e w', openJ d base = (d', none, e) → DkQ (q.mv u) d' → d'.keep = d.keep → Ctx W w' (dkL (q.mv u) d' ++ S) Φ → K (.returned (.tuple #[.pointer none, .int .i64 e])) w')
    (hs : ∀ u x d' j w', openJ d base = (d', some j, 0) → SB x.p x.cap j.list x.o → DkQ (q.mv u) d' → d'.keep = d.keep → Ctx W w' (JoO x q j ++ (dkL (q.mv u) d' ++ S)) Φ → K (.returned (.tuple #[.pointer (some ⟨x.jb, 0, none⟩), .int .i64 0])) w') :
    Calls Tryd.prog F.journal_Open #[.pointer (some ⟨q.db, 0, none⟩), .int .i64 base] w K := by
  refine (Bjournal_Open_run q.db 0 base (J := fun u w' => K (.returned u) w') cx fun w G cx => Br.intro (fun h => fun w G cx => ?_) (fun h => ?_)).mono fun e w' ⟨v, he, hj⟩ => by rw [he]; exact hj
  · have h : base < 0 ∨ 14 < base := by simpa using h
    exact hn q.un d 1 w (by unfold openJ; rw [if_pos h]) hq rfl (Ctx.left cx)
  have h : ¬ (base < 0 ∨ 14 < base) := by simpa using h
  have hrest := openJ_rest (d := d) h
  refine ⟨by unfold I64; omega, fun kb => exI_mk (fun n R' Φ' k => ∃ u d1, n = ((2 - k : Nat) : Int) ∧ k ≤ 2 ∧ R' = .blk kb [.int .i64 base, .int .i64 (base + 1)] 3 :: (dkL (q.mv u) d1 ++ S) ∧ Φ' = Φ ∧ DkQ (q.mv u) d1 ∧ d1.keep = d.keep ∧ openJ d base = restJ base k d1) ⟨⟨_, Φ, 2, inferInstance, fun w G cx => cx, q.un, d, rfl, Nat.le_refl _, rfl, rfl, hq, rfl, hrest⟩, ?_⟩⟩
  clear cx
  rintro n R1 Φ k st ⟨u, d1, rfl, hk2, rfl, rfl, hq1, hkeep, hrest⟩
  refine Br.intro (fun hlt => ⟨⟨by omega, of_decide_eq_true hlt⟩, fun w G cx => ?_⟩) (fun hge => ⟨by unfold I64; omega, fun w G cx => ?_⟩)
  · have hlt := of_decide_eq_true hlt
    obtain ⟨k, rfl⟩ : ∃ m, k = m + 1 := ⟨k - 1, by omega⟩
    have hfile : w.cell? ⟨kb, 0 + ((2 - (k + 1) : Nat) : Int).toNat, none⟩ = some (.int .i64 (if k = 0 then base + 1 else base)) := by
      rw [Int.toNat_natCast, Nat.zero_add]
      have hk : k = 0 ∨ k = 1 := by omega
      rcases hk with rfl | rfl
      · exact cx.get 0 rfl rfl
      · exact cx.get 0 rfl rfl
    refine ⟨_, hfile, fun w G cx => ?_⟩
    have hrest : openJ d base = if (syncS d1 (if k = 0 then base + 1 else base)).2 ≠ 0 then ((syncS d1 (if k = 0 then base + 1 else base)).1, none, (syncS d1 (if k = 0 then base + 1 else base)).2) else restJ base k (syncS d1 (if k = 0 then base + 1 else base)).1 := hrest
    have hsk := sync_keep d1 (if k = 0 then base + 1 else base)
    refine Sync_use (q := q.mv u) (S := .blk kb [.int .i64 base, .int .i64 (base + 1)] 3 :: (S ++ G)) hq1 (hkp.of hkeep u) (own_in cx) fun u w hq2 cx => ?_
    generalize syncS d1 (if k = 0 then base + 1 else base) = r at hrest hq2 cx hsk
    obtain ⟨d2, e2⟩ := r
    simp only at hrest hq2 cx hsk
    refine ⟨e2, rfl, .blk kb [.int .i64 base, .int .i64 (base + 1)] 3 :: (dkL (q.mv u) d2 ++ S), Φ, inferInstance, own_out cx, Br.intro (fun h4 => fun w G cx => ?_) (fun h4 => ?_)⟩
    · rw [if_pos (of_decide_eq_true h4)] at hrest
      exact hn u d2 e2 w hrest hq2 (hsk.trans hkeep) (Ctx.left (Ctx.drop1 cx))
    · rw [if_neg (of_decide_eq_false h4)] at hrest
      exact ⟨by unfold I64; omega, _, Φ, k, inferInstance, fun w G cx => cx, ⟨u, d2, by omega, by omega, rfl, rfl, hq2, hsk.trans hkeep, hrest⟩, Nat.lt_succ_self _⟩
  · have hge := of_decide_eq_false hge
    have hk0 : k = 0 := by omega
    subst hk0
    have hrest : openJ d base = (d1, openJ1 d1 base) := hrest
    have cx : Ctx W w (dkL (q.mv u) d1 ++ (S ++ G)) Φ := by
      have this : Ctx W w ((dkL (q.mv u) d1 ++ S) ++ G) Φ := cx.drop1
      rw [List.append_assoc] at this
      exact this
    unfold openJ1 at hrest
    refine COpen_use (q := q.mv u) hq1 hoff cx (fun e w ho cx => ?_) (fun c cb w ho cx => ?_)
    · rw [ho] at hrest
      refine ⟨none, e, rfl, dkL (q.mv u) d1 ++ S, Φ, inferInstance, by rw [List.append_assoc]; exact cx, Br.intro (fun h4 => fun w G cx => ?_) (fun h4 => absurd (Decidable.not_not.1 (of_decide_eq_false h4)) (openC_none ho))⟩
      exact hn u d1 e w hrest hq1 hkeep (Ctx.left cx)
    · rw [ho] at hrest
      have hcv := (openC_value hq1 ho).1
      simp only at hrest
      unfold openJ2 at hrest
      refine ⟨some ⟨cb, 0, none⟩, 0, rfl, clO cb q c :: (dkL (q.mv u) d1 ++ S), Φ, inferInstance, re4 cx, Br.intro (fun h4 => absurd rfl (of_decide_eq_true h4)) (fun h4 => fun w G cx => ?_)⟩
      refine numbers_use (S := (dkL (q.mv u) d1 ++ S) ++ G) hN (by omega) cx fun w cx => ?_
      generalize numsJ c = r at hrest
      obtain ⟨b, m, ok⟩ := r
      simp only at hrest
      refine ⟨b, m, ok, rfl, clO cb q c :: (dkL (q.mv u) d1 ++ S), Φ, inferInstance, cx, Br.intro (fun h5 => fun w G cx => ?_) (fun h5 => fun w G cx => ?_)⟩
      · rw [if_pos (by simpa using h5)] at hrest
        exact hn u d1 2 w hrest hq1 hkeep (Ctx.left (Ctx.drop1 cx))
      rw [if_neg (by simpa using h5)] at hrest
      have hrl := read_len hq1 base 0 b
      refine DRead_use (q := q.mv u) (S := clO cb q c :: (S ++ G)) hq1 (own_in cx) fun w cx => ?_
      generalize readS d1 base 0 b = r at hrest hrl
      obtain ⟨s, e⟩ := r
      simp only at hrest hrl
      refine ⟨bs s, e, rfl, clO cb q c :: (dkL (q.mv u) d1 ++ S), Φ, inferInstance, own_out cx, Br.intro (fun h6 => fun w G cx => ?_) (fun h6 => fun w G cx => ?_)⟩
      · rw [if_pos (of_decide_eq_true h6)] at hrest
        exact hn u d1 e w hrest hq1 hkeep (Ctx.left (Ctx.drop1 cx))
      rw [if_neg (of_decide_eq_false h6)] at hrest
      refine Read_use (S := (clO cb q c :: (dkL (q.mv u) d1 ++ S)) ++ G) hN hrl cx (fun p k cp w hr cx => ?_) (fun p cap l o w hr hsb cx => ?_)
      · rw [hr] at hrest
        refine ⟨p, k, cp, false, rfl, clO cb q c :: (dkL (q.mv u) d1 ++ S), Φ, inferInstance, cx, fun w G cx => Br.intro (fun _ => fun w G cx => ?_) (fun h7 => by simp at h7)⟩
        exact hn u d1 2 w hrest hq1 hkeep (Ctx.left (Ctx.drop1 cx))
      · rw [hr] at hrest
        simp only at hrest
        refine ⟨p, _, cap, true, rfl, o :: clO cb q c :: (dkL (q.mv u) d1 ++ S), Φ, inferInstance, cx, fun w G cx => Br.intro (fun h7 => fun w G cx => ?_) (fun h7 => fun jb w G cx => ?_)⟩
        · have h7 : (s.length : Int) ≠ b := by rw [bs_size] at h7; simpa using h7
          rw [if_pos h7] at hrest
          exact hn u d1 2 w hrest hq1 hkeep (Ctx.left (Ctx.drop1 (Ctx.drop1 cx)))
        · have h7 : (s.length : Int) = b := by rw [bs_size] at h7; simpa using h7
          rw [if_neg (fun h => h h7)] at hrest
          have hb : b = ((b.toNat : Nat) : Int) := by omega
          refine hs u ⟨jb, cb, p, cap, o⟩ d1 _ w hrest hsb hq1 hkeep ?_
          have cx : Ctx W w ([Own.blk jb [.pointer (some ⟨q.db, 0, none⟩), .int .i64 base, .pointer (some ⟨cb, 0, none⟩), .slice p l.length cap, .int .i64 b, .bool false] 71, o] ++ (clO cb q c :: (dkL (q.mv u) d1 ++ S))) Φ := Ctx.left cx
          rw [hb] at cx
          exact cx.perm (List.Perm.swap _ _ _)
end
end Go.Proofs.YtfccagphnfceiaaDoor
end

/-
  Comparing lists; journals that work: the calls, at one go.
-/
section
set_option linter.unusedVariables false
set_option linter.unusedSimpArgs false
namespace Go.Proofs.YtfccagphnfceiaaDoor
open Go.Vc

section
variable {W w : World} {S G : List Own} {Φ : PW}
theorem Same_in [Stable Φ] {p q : Option Addr} {ac bc : Nat} {a b : List ByteArray} (ha : ∀ M w, Φ M w → Sl M w p a) (hb : ∀ M w, Φ M w → Sl M w q b) (hl : a.length ≤ 1000000000) : GivesIn Φ Tryd.prog F.errataref01_SameTexts #[.slice p a.length ac, .slice q b.length bc] (.bool (decide (a = b))) := by
  refine .there (fun M w h => (ha M w h).there) fun hta => .there (fun M w h => (hb M w h).there) fun htb => ?_
  refine gives_in (Berrataref01_SameTexts_run p a.length ac q b.length bc) fun W R => Br.intro (fun h => fun w G cx => ⟨?_, cx.left⟩) (fun h => ?_)
  · rw [decide_eq_false fun e => of_decide_eq_true h (by rw [e])]
  have h : a.length = b.length := by have := of_decide_eq_false h; omega
  refine exI_mk (fun n R' Φ' k => ∃ i : Nat, n = i ∧ i + k = a.length ∧ R' = R ∧ Φ' = Φ ∧ a.take i = b.take i) ⟨⟨_, Φ, a.length, inferInstance, fun w G cx => cx, 0, rfl, by omega, rfl, rfl, by simp⟩, ?_⟩
  rintro n R1 Φ k _ ⟨i, rfl, hik, rfl, rfl, htk⟩
  refine Br.intro (fun hlt => fun w G cx => ?_) (fun hge => fun w G cx => ⟨?_, cx.left⟩)
  · have hlt : i < a.length := by have := of_decide_eq_true hlt; omega
    obtain ⟨k, rfl⟩ : ∃ m, k = m + 1 := ⟨k - 1, by omega⟩
    obtain ⟨g, o, rfl⟩ := hta (by omega)
    obtain ⟨g2, o2, rfl⟩ := htb (by omega)
    refine ⟨⟨by omega, by omega⟩, ptrK_intro g o rfl ⟨a[i], by rw [Int.toNat_natCast]; exact sl_str (ha _ _ cx.phi) hlt, ⟨by omega, by omega⟩, ptrK_intro g2 o2 rfl ⟨b[i]'(by omega), by rw [Int.toNat_natCast]; exact sl_str (hb _ _ cx.phi) (by omega), Br.intro (fun hne => fun w G cx => ⟨?_, cx.left⟩) (fun he => ?_)⟩⟩⟩
    · rw [decide_eq_false fun e => of_decide_eq_true hne (by simp only [e])]
    · refine ⟨by unfold I64; omega, _, Φ, k, inferInstance, fun w G cx => cx, ⟨i + 1, by omega, by omega, rfl, rfl, ?_⟩, Nat.lt_succ_self _⟩
      rw [List.take_succ_eq_append_getElem hlt, List.take_succ_eq_append_getElem (by omega : i < b.length), htk, Decidable.not_not.1 (of_decide_eq_false he)]
  · have hge : i = a.length := by have := of_decide_eq_false hge; omega
    subst hge
    rw [List.take_length, h, List.take_length] at htk
    rw [decide_eq_true htk]

/-- the tables that the program reads -/
structure JI (Φ : PW) : Prop where
  num : ∀ M w, Φ M w → NumI M w
  off : ∀ M w, Φ M w → OffI M w
theorem JI.tab (h : JI Φ) : ∀ M w, Φ M w → TabI M w := fun M w hp => (h.num M w hp).1
theorem JI.weak (h : JI Φ) {Ψ : PW} (e : ∀ M w, Ψ M w → Φ M w) : JI Ψ := ⟨fun M w hp => h.num M w (e M w hp), fun M w hp => h.off M w (e M w hp)⟩
/-- a journal in memory -/
structure JM (Φ : PW) (q : DkP) (d : DsS) (x : JoP) (j : JouS) : Prop where
  dq : DkQ q d
  kk : DkK Φ q d
  sb : SB x.p x.cap j.list x.o
theorem JM.weak {q : DkP} {d : DsS} {x : JoP} {j : JouS} (h : JM Φ q d x j) {Ψ : PW} (e : ∀ M w, Ψ M w → Φ M w) : JM Ψ q d x j := ⟨h.dq, h.kk.weak e, h.sb⟩
/-- one that works -/
structure JF (d : DsS) (j : JouS) : Prop where
  live : Live d j
  ok : j.broken = false
  fine : DsH d
theorem live_len {d : DsS} {j : JouS} (h : Live d j) : j.list.length ≤ 1048576 ∧ j.bytes ≤ 1048576 ∧ ∀ x ∈ j.list, x.size ≤ 1048576 := by
  have h1 := h.most
  have h2 := formL_len (l := j.list) fun x hx => Nat.le_trans (formL_size hx) (by omega)
  have h3 := h.bytes
  exact ⟨by omega, by omega, fun x hx => Nat.le_trans (formL_size hx) h1⟩
theorem append_nil (d : DsS) {j : JouS} (h : j.broken = false) : appendS d j [] = (d, j, 0) := by
  unfold appendS; rw [if_neg (by rw [h]; simp), if_pos rfl]

theorem FAppend_use [Stable Φ] (hi : JI Φ) {q : DkP} {d : DsS} {x : JoP} {j : JouS} (hm : JM Φ q d x j) (hf : JF d j) {lp : Option Addr} {lc : Nat} {l : List ByteArray} (hsl : ∀ M w, Φ M w → Sl M w lp l) (hl : (formL j.list).length + (formL l).length ≤ 1048576) (cx : Ctx W w (JoO x q j ++ (dkL q d ++ S)) Φ) {K : Ending → World → Prop}
    (hk : ∀ u p c o d' j' w', JM Φ (q.mv u) d' (x.mv p c o) j' → JF d' j' → j'.list = j.list ++ l → j'.base = j.base → d'.keep = d.keep → (∀ G, Ev (d.files G) (d'.files G) ∨ (G = j.base ∨ G = j.base + 1)) → Ctx W w' (JoO (x.mv p c o) q j' ++ (dkL (q.mv u) d' ++ S)) Φ → K (.returned (.int .i64 0)) w') :
    Calls Tryd.prog F.journal_Journal_Append #[.pointer (some ⟨x.jb, 0, none⟩), .slice lp l.length lc] w K := by
  obtain ⟨h1, h2, h3⟩ := live_len hf.live
  have h4 := formL_len (l := l) fun x hx => Nat.le_trans (formL_size hx) (by omega)
  have hb := hf.live.bytes
  refine Append_use hm.dq hm.kk hi.off hi.tab hm.sb hsl (by omega) (by omega) (by omega) cx fun u p c o w hsb hq cx => ?_
  have hkeep : (appendS d j l).1.keep = d.keep := by
    unfold appendS
    split
    · rfl
    · split
      · rfl
      · split
        · rfl
        · split
          · exact log_keep _ _ _
          · unfold gotS; split
            · show (noteS _ _ _ _).1.keep = _
              rw [note_keep, log_keep]
            · show (noteS _ _ _ _).1.keep = _
              rw [note_keep, log_keep]
  by_cases hnil : l = []
  · subst hnil
    rw [append_nil d hf.ok] at hsb hq cx ⊢
    exact hk u p c o d j w ⟨hq, hm.kk.of rfl u, hsb⟩ hf (by simp) rfl rfl (fun G => .inl (.refl _)) cx
  have ho := append_out hf.live hf.ok hm.dq.w hnil (by omega)
  obtain ⟨hfin, he⟩ := ho.fine hf.fine
  rcases ho.or with ⟨_, g1, g2, g3⟩ | ⟨g, _⟩
  · rw [he]
    exact hk u p c o _ _ w ⟨hq, hm.kk.of hkeep u, hsb⟩ ⟨g3, g1, hfin⟩ g2 ho.base hkeep ho.other cx
  · rw [he] at g; omega
theorem got_keep (j : JouS) (l : List ByteArray) (b : Nat) (r : DsS × JouS × Int) : (gotS j l b r).1 = r.1 := by
  unfold gotS; split <;> rfl
theorem cutS_keep (d : DsS) (j : JouS) (n : Int) : (cutS d j n).1.keep = d.keep := by
  unfold cutS
  split
  · rfl
  · split
    · rfl
    · split
      · rfl
      · rw [got_keep, note_keep]
theorem appendS_keep (d : DsS) (j : JouS) (l : List ByteArray) : (appendS d j l).1.keep = d.keep := by
  unfold appendS
  split
  · rfl
  · split
    · rfl
    · split
      · rfl
      · split
        · exact log_keep _ _ _
        · rw [got_keep, note_keep, log_keep]
theorem FCut_use [Stable Φ] (hi : JI Φ) {q : DkP} {d : DsS} {x : JoP} {j : JouS} (hm : JM Φ q d x j) (hf : JF d j) {n : Int} (cx : Ctx W w (JoO x q j ++ (dkL q d ++ S)) Φ) {K : Ending → World → Prop}
    (hk : ∀ u p c o d' j' e w', JM Φ (q.mv u) d' (x.mv p c o) j' → JF d' j' → j'.list = (if 0 ≤ n ∧ n ≤ (j.list.length : Int) then j.list.take n.toNat else j.list) → e = (if 0 ≤ n ∧ n ≤ (j.list.length : Int) then 0 else 1) → j'.base = j.base → d'.keep = d.keep → (∀ G, Ev (d.files G) (d'.files G) ∨ (G = j.base ∨ G = j.base + 1)) → Ctx W w' (JoO (x.mv p c o) q j' ++ (dkL (q.mv u) d' ++ S)) Φ → K (.returned (.int .i64 e)) w') :
    Calls Tryd.prog F.journal_Journal_Cut #[.pointer (some ⟨x.jb, 0, none⟩), .int .i64 n] w K := by
  have hmost := hf.live.most
  refine Cut_use hm.dq hm.kk hi.off hi.tab hm.sb (by omega) cx fun u p c o w hsb hq cx => ?_
  have hkeep := cutS_keep d j n
  have hb : ¬ j.broken = true := by rw [hf.ok]; simp
  by_cases h1 : n < 0 ∨ (j.list.length : Int) < n
  · have e : cutS d j n = (d, j, 1) := by unfold cutS; rw [if_neg hb, if_pos h1]
    rw [e] at hsb hq cx hkeep ⊢
    exact hk u p c o d j 1 w ⟨hq, hm.kk.of rfl u, hsb⟩ hf (by rw [if_neg (by omega)]) (by rw [if_neg (by omega)]) rfl rfl (fun G => .inl (.refl _)) cx
  · by_cases h2 : n = (j.list.length : Int)
    · have e : cutS d j n = (d, j, 0) := by unfold cutS; rw [if_neg hb, if_neg h1, if_pos h2]
      rw [e] at hsb hq cx hkeep ⊢
      exact hk u p c o d j 0 w ⟨hq, hm.kk.of rfl u, hsb⟩ hf (by rw [if_pos (by omega), List.take_of_length_le (by omega)]) (by rw [if_pos (by omega)]) rfl rfl (fun G => .inl (.refl _)) cx
    · obtain ⟨k, rfl⟩ : ∃ k : Nat, n = k := ⟨n.toNat, by omega⟩
      have ho := cut_out hf.live hf.ok hm.dq.w (n := k) (by omega)
      obtain ⟨hfin, he⟩ := ho.fine hf.fine
      rcases ho.or with ⟨_, g1, g2, g3⟩ | ⟨g, _⟩
      · rw [he]
        exact hk u p c o _ _ 0 w ⟨hq, hm.kk.of hkeep u, hsb⟩ ⟨g3, g1, hfin⟩ (by rw [if_pos (by omega), g2, Int.toNat_natCast]) (by rw [if_pos (by omega)]) ho.base hkeep ho.other cx
      · rw [he] at g; omega
theorem FOpen_use [Stable Φ] (hi : JI Φ) {q : DkP} {d : DsS} (hq : DkQ q d) (hkk : DkK Φ q d) (hf : DsH d) {b : Int} (hb : 0 ≤ b ∧ b ≤ 14) {P : List ByteArray → Prop} (hJ : JFut d b P) (cx : Ctx W w (dkL q d ++ S) Φ) {K : Ending → World → Prop}
    (hk : ∀ u x d' j w', JM Φ (q.mv u) d' x j → JF d' j → P j.list → j.base = b → d'.keep = d.keep → (∀ G, Ev (d.files G) (d'.files G) ∨ (G = b ∨ G = b + 1)) → Ctx W w' (JoO x q j ++ (dkL (q.mv u) d' ++ S)) Φ → K (.returned (.tuple #[.pointer (some ⟨x.jb, 0, none⟩), .int .i64 0])) w') :
    Calls Tryd.prog F.journal_Open #[.pointer (some ⟨q.db, 0, none⟩), .int .i64 b] w K := by
  have ho := openJ_out hb hq.w hJ
  obtain ⟨hfin, he⟩ := ho.fine hf
  refine JOpen_use hq hkk hi.off hi.num cx (fun u d' e w hop hq' hkeep cx => ?_) (fun u x d' j w hop hsb hq' hkeep cx => ?_)
  · rcases ho.or with ⟨j, h1, _⟩ | ⟨_, h1, _⟩
    · rw [hop] at h1; cases h1
    · omega
  · rcases ho.or with ⟨j2, h1, _, h3, h4, h5, h6⟩ | ⟨h1, _⟩
    · have hoth := ho.other
      rw [hop] at h1 hfin h3 hoth
      cases h1
      exact hk u x d' j w ⟨hq', hkk.of hkeep u, hsb⟩ ⟨h3, h6, hfin⟩ h4 h5 hkeep hoth cx
    · rw [hop] at h1; cases h1
end
end Go.Proofs.YtfccagphnfceiaaDoor
end

/-
  Journals through failures, in plain Lean: what each call may come to.
-/
section
set_option linter.unusedVariables false
set_option linter.unusedSimpArgs false
namespace Go.Proofs.YtfccagphnfceiaaDoor
open Go.Vc

/-! ### no crash is scheduled -/
theorem crash_arm {d : DsS} (h : d.armed = 0) (l : List Int) : (crashS d l).armed = 0 := by
  unfold crashS; split
  · exact h
  · rfl
/-! ### a journal, whatever fails -/
structure SI (d : DsS) (j : JouS) : Prop where
  base : 0 ≤ j.base ∧ j.base ≤ 14
  bytes : j.bytes ≤ 1048576
  most : (formL j.list).length ≤ 1048576
  live : j.broken = false → Live d j
theorem SI.len {d : DsS} {j : JouS} (h : SI d j) : j.list.length ≤ 1048576 ∧ ∀ x ∈ j.list, x.size ≤ maxLen := by
  have h1 := h.most
  have h2 := formL_len (l := j.list) fun x hx => Nat.le_trans (formL_size hx) (by omega)
  exact ⟨by omega, fun x hx => Nat.le_trans (formL_size hx) (by unfold maxLen; omega)⟩
theorem SI.of_live {d : DsS} {j : JouS} (h : Live d j) : SI d j := ⟨h.base, (live_len h).2.1, h.most, fun _ => h⟩
theorem JFut.frame {d d' : DsS} {b : Int} {P : List ByteArray → Prop} (h : JFut d b P) (hf : d'.files = d.files) : JFut d' b P := by
  unfold JFut at *
  rw [hf]
  exact h
theorem SI.frame {d d' : DsS} {j : JouS} (h : SI d j) (hf : d'.files = d.files) : SI d' j := ⟨h.base, h.bytes, h.most, fun hb => (h.live hb).frame hf⟩
theorem append_fail {d : DsS} {j : JouS} {l : List ByteArray} (h : (appendS d j l).2.2 ≠ 0) : (appendS d j l).2.1.bytes = j.bytes := by
  unfold appendS at *
  split at h
  · rename_i hc; rw [if_pos hc]
  · rename_i hc
    rw [if_neg hc]
    split at h
    · rename_i hc; rw [if_pos hc]
    · rename_i hc
      rw [if_neg hc]
      split at h
      · rename_i hc; rw [if_pos hc]
      · rename_i hc
        rw [if_neg hc]
        split at h
        · rename_i hc; rw [if_pos hc]
        · rename_i hc
          rw [if_neg hc]
          unfold gotS at *
          split at h
          · rename_i hc; rw [if_pos hc]; rfl
          · exact absurd rfl h
theorem cut_fail {d : DsS} {j : JouS} {n : Int} (h : (cutS d j n).2.2 ≠ 0) : (cutS d j n).2.1.bytes = j.bytes := by
  unfold cutS at *
  split at h
  · rename_i hc; rw [if_pos hc]
  · rename_i hc
    rw [if_neg hc]
    split at h
    · rename_i hc; rw [if_pos hc]
    · rename_i hc
      rw [if_neg hc]
      split at h
      · rename_i hc; rw [if_pos hc]
      · rename_i hc
        rw [if_neg hc]
        unfold gotS at *
        split at h
        · rename_i hc; rw [if_pos hc]; rfl
        · exact absurd rfl h
/-- what a call on a journal came to -/
structure CallR (d : DsS) (j : JouS) (want : List ByteArray) (r : DsS × JouS × Int) : Prop where
  si : SI r.1 r.2.1
  base : r.2.1.base = j.base
  or : (r.1 = d ∧ r.2.1 = j ∧ r.2.2 ≠ 9 ∧ r.2.2 ≠ 10 ∧ (r.2.2 = 0 → want = j.list ∧ j.broken = false)) ∨ (r.2.2 = 0 ∧ r.2.1.broken = false ∧ r.2.1.list = want ∧ Live r.1 r.2.1) ∨
    ((r.2.2 = 9 ∨ r.2.2 = 10) ∧ r.2.1.broken = true ∧ r.2.1.list = j.list ∧ JFut r.1 j.base fun l => l = j.list ∨ l = want)
theorem append_call {d : DsS} {j : JouS} {l : List ByteArray} (h : SI d j) (hw : DsW d) : CallR d j (j.list ++ l) (appendS d j l) := by
  by_cases hb : j.broken = true
  · have e : appendS d j l = (d, j, 7) := by unfold appendS; rw [if_pos hb]
    rw [e]
    exact ⟨h, rfl, .inl ⟨rfl, rfl, by simp, by simp, fun h => by simp at h⟩⟩
  by_cases hl : l = []
  · have e : appendS d j l = (d, j, 0) := by unfold appendS; rw [if_neg hb, if_pos hl]
    rw [e]
    exact ⟨h, rfl, .inl ⟨rfl, rfl, by simp, by simp, fun _ => ⟨by rw [hl, List.append_nil], by simpa using hb⟩⟩⟩
  by_cases hm : 1048576 < j.bytes + (formL l).length
  · have e : appendS d j l = (d, j, 6) := by unfold appendS; rw [if_neg hb, if_neg hl, if_pos hm]
    rw [e]
    exact ⟨h, rfl, .inl ⟨rfl, rfl, by simp, by simp, fun h => by simp at h⟩⟩
  have hb : j.broken = false := by simpa using hb
  have ho := append_out (h.live hb) hb hw hl (by omega)
  rcases ho.or with ⟨e, g1, g2, g3⟩ | ⟨e, g1, g2, g3⟩
  · exact ⟨.of_live g3, ho.base, .inr (.inl ⟨e, g1, g2, g3⟩)⟩
  · refine ⟨⟨by rw [ho.base]; exact h.base, by rw [append_fail (by omega)]; exact h.bytes, by rw [g2]; exact h.most, fun h => by rw [g1] at h; cases h⟩, ho.base, .inr (.inr ⟨e, g1, g2, g3⟩)⟩
theorem cut_call {d : DsS} {j : JouS} {n : Int} (h : SI d j) (hw : DsW d) : CallR d j (j.list.take n.toNat) (cutS d j n) := by
  by_cases hb : j.broken = true
  · have e : cutS d j n = (d, j, 7) := by unfold cutS; rw [if_pos hb]
    rw [e]
    exact ⟨h, rfl, .inl ⟨rfl, rfl, by simp, by simp, fun h => by simp at h⟩⟩
  by_cases hn : n < 0 ∨ (j.list.length : Int) < n
  · have e : cutS d j n = (d, j, 1) := by unfold cutS; rw [if_neg hb, if_pos hn]
    rw [e]
    exact ⟨h, rfl, .inl ⟨rfl, rfl, by simp, by simp, fun h => by simp at h⟩⟩
  by_cases hl : n = (j.list.length : Int)
  · have e : cutS d j n = (d, j, 0) := by unfold cutS; rw [if_neg hb, if_neg hn, if_pos hl]
    rw [e]
    exact ⟨h, rfl, .inl ⟨rfl, rfl, by simp, by simp, fun _ => ⟨List.take_of_length_le (by omega), by simpa using hb⟩⟩⟩
  obtain ⟨k, rfl⟩ : ∃ k : Nat, n = k := ⟨n.toNat, by omega⟩
  have hb : j.broken = false := by simpa using hb
  have ho := cut_out (h.live hb) hb hw (n := k) (by omega)
  rw [Int.toNat_natCast]
  rcases ho.or with ⟨e, g1, g2, g3⟩ | ⟨e, g1, g2, g3⟩
  · exact ⟨.of_live g3, ho.base, .inr (.inl ⟨e, g1, g2, g3⟩)⟩
  · refine ⟨⟨by rw [ho.base]; exact h.base, by rw [cut_fail (by omega)]; exact h.bytes, by rw [g2]; exact h.most, fun h => by rw [g1] at h; cases h⟩, ho.base, .inr (.inr ⟨e, g1, g2, g3⟩)⟩
end Go.Proofs.YtfccagphnfceiaaDoor
end

/-
  The example of the laws of journals; the checks of what comes in: walked.
-/
section
set_option linter.unusedVariables false
set_option linter.unusedSimpArgs false
namespace Go.Proofs.YtfccagphnfceiaaDoor
open Go.Vc

theorem formL_le {l : List ByteArray} {m : Nat} (h : ∀ x ∈ l, x.size ≤ m) (hm : m ≤ 1000000000) : (formL l).length ≤ l.length * (m + 32) := by
  induction l with
  | nil => exact Nat.zero_le _
  | cons x l ih =>
    have h1 := ih fun y hy => h y (by simp [hy])
    have h2 := h x (by simp)
    have h3 := textB_size (s := x) (by omega)
    rw [formL_cons, List.length_append, List.length_cons, Nat.add_mul, Nat.one_mul, list_size]
    omega
section
variable {W w : World} {S R G : List Own} {Φ : PW}
theorem froz [Stable Φ] {b : Nat} {l : List ByteArray} (hs : ∀ x ∈ l, x.size ≤ maxLen) (cx : Ctx W w (.blk b (strC l) 9 :: S) Φ) : Ctx W w S (fun M w => Φ M w ∧ Sl M w (some ⟨b, 0, none⟩) l) := by
  obtain ⟨c1, h1⟩ := cx.freezeBlk (elems_strJ hs)
  exact c1.add h1
theorem j_in {A X S G : List Own} (cx : Ctx W w ((A ++ (X ++ S)) ++ G) Φ) : Ctx W w (A ++ (X ++ (S ++ G))) Φ := by
  rw [List.append_assoc, List.append_assoc] at cx; exact cx
theorem j_out {A X S G : List Own} (cx : Ctx W w (A ++ (X ++ (S ++ G))) Φ) : Ctx W w ((A ++ (X ++ S)) ++ G) Φ := by
  rw [List.append_assoc, List.append_assoc]; exact cx
theorem small_in [Stable Φ] (hi : JI Φ) : GivesIn Φ Tryd.prog F.erratalaw06_small #[] (.bool true) := by
  refine gives_in Berratalaw06_small_run fun W R => fun w G cx => DNew_use cx fun q w hq cx => ?_
  have hi1 : JI (fun M w => Φ M w ∧ dkF q dsNew M w) := hi.weak fun _ _ h => h.1
  have hkk : DkK (fun M w => Φ M w ∧ dkF q dsNew M w) q dsNew := ⟨Nat.zero_le _, fun M w h => h.2⟩
  refine ⟨_, rfl, dkL q dsNew ++ R, fun M w => Φ M w ∧ dkF q dsNew M w, inferInstance, cx.re (List.append_assoc _ _ _).symm, Br.intro (fun h => by cases h) (fun _ => fun w G cx => ?_)⟩
  refine FOpen_use hi1 hq hkk dsNew_h ⟨by decide, by decide⟩ (new_fut 3) (cx.re (List.append_assoc _ _ _)) fun u x d j w hm hf hl hb hkeep _ cx => ?_
  have hl : j.list = [] := hl
  refine ⟨_, _, rfl, JoO x q j ++ (dkL (q.mv u) d ++ R), _, inferInstance, by rw [← List.append_assoc (dkL _ _), ← List.append_assoc] at cx; exact cx, Br.intro (fun h => by cases h) (fun _ => fun w G cx => ?_)⟩
  refine Len_use (S := (dkL (q.mv u) d ++ R) ++ G) cx fun w cx => ⟨_, rfl, JoO x q j ++ (dkL (q.mv u) d ++ R), _, inferInstance, cx, fun b1 w G cx => ?_⟩
  -- two strings
  have s1 : ∀ y ∈ [ByteArray.mk #[97], ByteArray.mk #[98, 99]], y.size ≤ 2 := by
    intro y hy
    simp only [List.mem_cons, List.not_mem_nil, or_false] at hy
    rcases hy with rfl | rfl <;> decide
  have c1 := froz (S := (JoO x q j ++ (dkL (q.mv u) d ++ R)) ++ G) (fun y hy => Nat.le_trans (s1 y hy) (by unfold maxLen; omega)) cx
  have f1 := formL_le s1 (by omega)
  have g0 : formL j.list = [] := by rw [hl]; rfl
  refine FAppend_use (lp := some ⟨b1, 0, none⟩) (lc := 2) (l := [ByteArray.mk #[97], ByteArray.mk #[98, 99]]) (S := R ++ G) (hi1.weak fun _ _ h => h.1) (hm.weak fun _ _ h => h.1) hf (fun M w h => h.2) (by rw [g0]; simp at f1 ⊢; omega) (j_in c1) fun u1 p c o d1 j1 w hm1 hf1 hl1 hb1 hk1 _ cx => ?_
  have hm1 : JM (fun M w => Φ M w ∧ dkF q dsNew M w) ((q.mv u).mv u1) d1 (x.mv p c o) j1 := ⟨hm1.dq, hm.kk.of hk1 u1, hm1.sb⟩
  rw [hl, List.nil_append] at hl1
  refine ⟨0, rfl, JoO (x.mv p c o) q j1 ++ (dkL (q.mv u1) d1 ++ R), _, inferInstance, (j_out cx).weak fun _ _ h => h.1, fun w G cx => ?_⟩
  -- nothing
  have g1 : (formL j1.list).length ≤ 100 := by rw [hl1]; simp at f1 ⊢; omega
  refine FAppend_use (q := (q.mv u).mv u1) (S := R ++ G) hi1 hm1 hf1 (lp := none) (lc := 0) (l := []) (fun M w h => Sl.nil) (by show (formL j1.list).length + 0 ≤ _; omega) (j_in cx) fun u2 p c o d2 j2 w hm2 hf2 hl2 hb2 hk2 _ cx => ?_
  have hm2 : JM (fun M w => Φ M w ∧ dkF q dsNew M w) (((q.mv u).mv u1).mv u2) d2 (x.mv p c o) j2 := ⟨hm2.dq, hm1.kk.of hk2 u2, hm2.sb⟩
  rw [hl1, List.append_nil] at hl2
  refine ⟨0, rfl, JoO (x.mv p c o) q j2 ++ (dkL (q.mv u2) d2 ++ R), _, inferInstance, j_out cx, fun b2 w G cx => ?_⟩
  -- one more
  have s3 : ∀ y ∈ [ByteArray.mk #[100]], y.size ≤ 2 := by
    intro y hy
    rw [List.mem_singleton.1 hy]; decide
  have f3 := formL_le s3 (by omega)
  have g2 : (formL j2.list).length ≤ 100 := by rw [hl2]; simp at f1 ⊢; omega
  have c3 := froz (S := (JoO (x.mv p c o) q j2 ++ (dkL (q.mv u2) d2 ++ R)) ++ G) (fun y hy => Nat.le_trans (s3 y hy) (by unfold maxLen; omega)) cx
  refine FAppend_use (q := ((q.mv u).mv u1).mv u2) (lp := some ⟨b2, 0, none⟩) (lc := 1) (l := [ByteArray.mk #[100]]) (S := R ++ G) (hi1.weak fun _ _ h => h.1) (hm2.weak fun _ _ h => h.1) hf2 (fun M w h => h.2) (by simp at f3 ⊢; omega) (j_in c3) fun u3 p c o d3 j3 w hm3 hf3 hl3 hb3 hk3 _ cx => ?_
  have hm3 : JM (fun M w => Φ M w ∧ dkF q dsNew M w) ((((q.mv u).mv u1).mv u2).mv u3) d3 (x.mv p c o) j3 := ⟨hm3.dq, hm2.kk.of hk3 u3, hm3.sb⟩
  rw [hl2] at hl3
  refine ⟨0, rfl, JoO (x.mv p c o) q j3 ++ (dkL (q.mv u3) d3 ++ R), _, inferInstance, (j_out cx).weak fun _ _ h => h.1, fun w G cx => ?_⟩
  -- the cut
  refine FCut_use (q := (((q.mv u).mv u1).mv u2).mv u3) (S := R ++ G) hi1 hm3 hf3 (j_in cx) fun u4 p c o d4 j4 e w hm4 hf4 hl4 he4 hb4 hk4 _ cx => ?_
  have hm4 : JM (fun M w => Φ M w ∧ dkF q dsNew M w) (((((q.mv u).mv u1).mv u2).mv u3).mv u4) d4 (x.mv p c o) j4 := ⟨hm4.dq, hm3.kk.of hk4 u4, hm4.sb⟩
  rw [hl3, if_pos (by decide)] at he4 hl4
  have hl4 : j4.list = [ByteArray.mk #[97], ByteArray.mk #[98, 99]] := hl4
  subst he4
  refine ⟨0, rfl, JoO (x.mv p c o) q j4 ++ (dkL (q.mv u4) d4 ++ R), _, inferInstance, j_out cx, fun w G cx => ?_⟩
  -- all
  have l4 := (live_len hf4.live)
  refine All_use (q := q) (S := (dkL (q.mv u4) d4 ++ R) ++ G) hm4.sb (by omega) cx fun b3 w cx => ?_
  have c5 := froz (S := (JoO (x.mv p c o) q j4 ++ (dkL (q.mv u4) d4 ++ R)) ++ G) (fun y hy => Nat.le_trans (l4.2.2 y hy) (by unfold maxLen; omega)) cx
  refine ⟨_, _, _, rfl, JoO (x.mv p c o) q j4 ++ (dkL (q.mv u4) d4 ++ R), _, inferInstance, c5, fun b4 w G cx => ?_⟩
  have c6 := froz (S := (JoO (x.mv p c o) q j4 ++ (dkL (q.mv u4) d4 ++ R)) ++ G) (fun y hy => Nat.le_trans (s1 y hy) (by unfold maxLen; omega)) cx
  refine (Same_in (Φ := fun M w => ((Φ M w ∧ dkF q dsNew M w) ∧ Sl M w (some ⟨b3, 0, none⟩) j4.list) ∧ Sl M w (some ⟨b4, 0, none⟩) [ByteArray.mk #[97], ByteArray.mk #[98, 99]]) (fun M w h => h.1.2) (fun M w h => h.2) (by omega)).use c6 fun w cx => ?_
  rw [decide_eq_true hl4]
  refine ⟨true, rfl, JoO (x.mv p c o) q j4 ++ (dkL (q.mv u4) d4 ++ R), fun M w => Φ M w ∧ dkF q dsNew M w, inferInstance, cx.weak fun _ _ h => h.1.1, fun b5 w G cx => ?_⟩
  -- a last one
  have s7 : ∀ y ∈ [ByteArray.mk #[101]], y.size ≤ 2 := by
    intro y hy
    rw [List.mem_singleton.1 hy]; decide
  have f7 := formL_le s7 (by omega)
  have g4 : (formL j4.list).length ≤ 100 := by rw [hl4]; simp at f1 ⊢; omega
  have c7 := froz (S := (JoO (x.mv p c o) q j4 ++ (dkL (q.mv u4) d4 ++ R)) ++ G) (fun y hy => Nat.le_trans (s7 y hy) (by unfold maxLen; omega)) cx
  refine FAppend_use (q := ((((q.mv u).mv u1).mv u2).mv u3).mv u4) (lp := some ⟨b5, 0, none⟩) (lc := 1) (l := [ByteArray.mk #[101]]) (S := R ++ G) (hi1.weak fun _ _ h => h.1) (hm4.weak fun _ _ h => h.1) hf4 (fun M w h => h.2) (by simp at f7 ⊢; omega) (j_in c7) fun u5 p c o d5 j5 w hm5 hf5 hl5 hb5 hk5 _ cx => ?_
  rw [hl4] at hl5
  refine ⟨0, rfl, JoO (x.mv p c o) q j5 ++ (dkL (q.mv u5) d5 ++ R), _, inferInstance, j_out cx, ?_⟩
  have hj0 : (j.list.length : Int) = 0 := by rw [hl]; rfl
  rw [hj0]
  refine Br.intro (fun _ => Br.intro (fun _ => Br.intro (fun _ => Br.intro (fun _ => Br.intro (fun _ => Br.intro (fun _ => Br.intro (fun _ => Br.intro (fun _ => ?_) (fun h => by cases h)) (fun h => by cases h)) (fun h => by cases h)) (fun h => by cases h)) (fun h => by cases h)) (fun h => by cases h)) (fun h => by cases h)) (fun h => by cases h)
  refine fun w G cx => JGet_use (q := q) (S := (dkL (q.mv u5) d5 ++ R) ++ G) hm5.sb cx fun w cx => ?_
  have e2 : getJ j5.list 2 = ByteArray.mk #[101] := by rw [hl5]; rfl
  have e3 : getJ j5.list 3 = ByteArray.mk #[] := by rw [hl5]; rfl
  rw [e2]
  refine ⟨_, rfl, JoO (x.mv p c o) q j5 ++ (dkL (q.mv u5) d5 ++ R), _, inferInstance, cx, Br.intro (fun _ => fun w G cx => ?_) (fun h => absurd rfl (of_decide_eq_false h))⟩
  refine JGet_use (q := q) (S := (dkL (q.mv u5) d5 ++ R) ++ G) hm5.sb cx fun w cx => ?_
  rw [e3]
  refine ⟨_, rfl, JoO (x.mv p c o) q j5 ++ (dkL (q.mv u5) d5 ++ R), _, inferInstance, cx, fun w G cx => ⟨?_, ?_⟩⟩
  · rw [decide_eq_true (rfl : ByteArray.mk #[] = ByteArray.mk #[])]
  · have c9 := Ctx.left cx
    exact (Ctx.right (S := JoO (x.mv p c o) q j5) c9 |> Ctx.right (S := dkL (q.mv u5) d5)).weak fun _ _ h => h.1.1
end
end Go.Proofs.YtfccagphnfceiaaDoor
end

/-
  Two journals on one disk; the checks of what comes in.
-/
section
set_option linter.unusedVariables false
set_option linter.unusedSimpArgs false
namespace Go.Proofs.YtfccagphnfceiaaDoor
open Go.Vc

theorem sub_z (p : Option Addr) (sz c : Nat) : subPtr p sz 0 c = p := by
  unfold subPtr
  split
  · rfl
  · cases p with
    | none => rfl
    | some a => cases a with
      | mk b o v => rw [Nat.zero_mul]; rfl
def textsB (l : List ByteArray) : Bool := decide (∀ x ∈ l, x.size ≤ 200) && decide (l.length ≤ 8)
theorem textsB_yes {l : List ByteArray} (h : textsB l = true) : (∀ x ∈ l, x.size ≤ 200) ∧ l.length ≤ 8 := by
  unfold textsB at h
  rw [Bool.and_eq_true] at h
  exact ⟨of_decide_eq_true h.1, of_decide_eq_true h.2⟩
theorem texts_form {l : List ByteArray} (h : textsB l = true) : (formL l).length ≤ 1856 := by
  obtain ⟨h1, h2⟩ := textsB_yes h
  have := formL_le h1 (by omega)
  have h3 : l.length * (200 + 32) ≤ 8 * 232 := Nat.mul_le_mul h2 (by omega)
  omega
section
variable {W w : World} {S R G : List Own} {Φ : PW}
theorem texts_in [Stable Φ] {p : Option Addr} {c : Nat} {l : List ByteArray} (hsl : ∀ M w, Φ M w → Sl M w p l) (hl : l.length ≤ 9223372036854775807) : GivesIn Φ Tryd.prog F.erratalaw06_texts #[.slice p l.length c] (.bool (textsB l)) := by
  refine .there (fun M w h => (hsl M w h).there) fun ht => ?_
  refine gives_in (Berratalaw06_texts_run p l.length c) fun W R => ?_
  refine exI_mk (fun n R' Φ' k => ∃ i : Nat, n = i ∧ i + k = l.length ∧ R' = R ∧ Φ' = Φ ∧ ∀ x ∈ l.take i, x.size ≤ 200) ⟨⟨_, Φ, l.length, inferInstance, fun w G cx => cx, 0, rfl, by omega, rfl, rfl, by simp⟩, ?_⟩
  rintro n R1 Φ k _ ⟨i, rfl, hik, rfl, rfl, hall⟩
  refine Br.intro (fun hlt => ?_) (fun hge => fun w G cx => ⟨?_, cx.left⟩)
  · have hlt : i < l.length := by have := of_decide_eq_true hlt; omega
    obtain ⟨k, rfl⟩ : ∃ m, k = m + 1 := ⟨k - 1, by omega⟩
    obtain ⟨g, o, rfl⟩ := ht (by omega)
    refine ⟨⟨by omega, by omega⟩, ptrK_intro g o rfl fun w G cx => ⟨l[i], by rw [Int.toNat_natCast]; exact sl_str (hsl _ _ cx.phi) hlt, Br.intro (fun hbig => fun w G cx => ⟨?_, cx.left⟩) (fun hok => ⟨by unfold I64; omega, _, Φ, k, inferInstance, fun w G cx => cx, ⟨i + 1, by omega, by omega, rfl, rfl, fun x hx => ?_⟩, Nat.lt_succ_self _⟩)⟩⟩
    · have : textsB l = false := by
        unfold textsB
        rw [decide_eq_false fun h => by have h1 := h l[i] (List.getElem_mem hlt); have := of_decide_eq_true hbig; omega]; rfl
      rw [this]
    · rw [List.take_succ_eq_append_getElem hlt] at hx
      rcases List.mem_append.1 hx with hx | hx
      · exact hall x hx
      · rw [List.mem_singleton.1 hx]; have := of_decide_eq_false hok; omega
  · have hge : i = l.length := by have := of_decide_eq_false hge; omega
    subst hge
    rw [List.take_length] at hall
    unfold textsB
    rw [decide_eq_true hall, Bool.true_and]
    have : decide ((l.length : Int) ≤ 8) = decide (l.length ≤ 8) := decide_eq_decide.2 (by omega)
    rw [this]

/-- two journals on one disk, both working -/
structure TwoJ (Φ : PW) (q : DkP) (d : DsS) (x y : JoP) (j k : JouS) : Prop where
  mj : JM Φ q d x j
  mm : JM Φ q d y k
  fj : JF d j
  fk : JF d k
  bj : j.base = 0
  bk : k.base = 2
theorem TwoJ.weak {q : DkP} {d : DsS} {x y : JoP} {j k : JouS} (h : TwoJ Φ q d x y j k) {Ψ : PW} (e : ∀ M w, Ψ M w → Φ M w) : TwoJ Ψ q d x y j k := ⟨h.mj.weak e, h.mm.weak e, h.fj, h.fk, h.bj, h.bk⟩
end
end Go.Proofs.YtfccagphnfceiaaDoor
end

/-
  Operations on a journal; the calls, whatever fails: walked.
-/
section
set_option linter.unusedVariables false
set_option linter.unusedSimpArgs false
namespace Go.Proofs.YtfccagphnfceiaaDoor
open Go.Vc

structure OpJ where
  kind : Int
  L : List ByteArray
  n : Int
  keep : List Int
instance : Gv OpJ := Gv.via (β := Int × List ByteArray × Int × List Int) (fun x => (x.kind, x.L, x.n, x.keep)) (fun y => ⟨y.1, y.2.1, y.2.2.1, y.2.2.2⟩) (fun _ => rfl)
abbrev OpJ.cells (x : OpJ) (p : Option Addr) (c : Nat) (q : Option Addr) (e : Nat) : List Value := [.int .i64 x.kind, .slice p x.L.length c, .int .i64 x.n, .slice q x.keep.length e]
theorem opj_cells {M : List Nat} {w : World} {cs : List Value} {x : OpJ} (h : Gv.rep M w cs x) : ∃ p c q e, cs = x.cells p c q e ∧ I64 x.kind ∧ I64 x.n ∧ x.L.length ≤ 9223372036854775807 ∧ x.keep.length ≤ 9223372036854775807 ∧ x.L.length ≤ c ∧ Sl M w p x.L ∧ Sl M w q x.keep := by
  obtain ⟨c1, c2, rfl, ⟨rfl, h1⟩, h2⟩ := h
  obtain ⟨c3, c4, rfl, h3, h4⟩ := h2
  obtain ⟨c5, c6, rfl, ⟨rfl, h5⟩, h6⟩ := h4
  obtain ⟨p, c, rfl, g1, g2, g3⟩ := rep_list.1 h3
  obtain ⟨q, e, rfl, g4, g5, g6⟩ := rep_list.1 h6
  unfold maxLen at g2 g5
  have g1 : x.L.length ≤ c := g1
  have g4 : x.keep.length ≤ e := g4
  exact ⟨p, c, q, e, rfl, h1, h5, by omega, by omega, g1, g3, g6⟩
def fewB (l : List OpJ) : Bool := decide (∀ x ∈ l, textsB x.L = true ∧ x.keep.length ≤ 50) && decide (l.length ≤ 25)
theorem fewB_yes {l : List OpJ} (h : fewB l = true) : (∀ x ∈ l, textsB x.L = true ∧ x.keep.length ≤ 50) ∧ l.length ≤ 25 := by
  unfold fewB at h
  rw [Bool.and_eq_true] at h
  exact ⟨of_decide_eq_true h.1, of_decide_eq_true h.2⟩
/-- the cells of an operation at place j -/
theorem opj_pin {M : List Nat} {w : World} {b o : Nat} {cs : List (List Value)} {l : List OpJ} (h : Pin b o cs l M w) {j : Nat} (hj : j < l.length) : ∃ p c q e, cs.getD j [] = l[j].cells p c q e ∧ I64 l[j].kind ∧ I64 l[j].n ∧ l[j].L.length ≤ 9223372036854775807 ∧ l[j].keep.length ≤ 9223372036854775807 ∧ l[j].L.length ≤ c := by
  obtain ⟨p, c, q, e, h1, h2, h3, h4, h5, h6, _⟩ := opj_cells (h j hj).2.2
  exact ⟨p, c, q, e, h1, h2, h3, h4, h5, h6⟩
theorem opj_row {M : List Nat} {w : World} {b o : Nat} {cs : List (List Value)} {l : List OpJ} (h : Pin b o cs l M w) {j : Nat} (hj : j < l.length) {p : Option Addr} {c : Nat} {q : Option Addr} {e : Nat} (he : cs.getD j [] = l[j].cells p c q e) : RowAt w b (o + j * 4) (l[j].cells p c q e) := by
  have := (h j hj).2.1
  rw [he] at this
  exact this
theorem opj_sl {M : List Nat} {w : World} {b o : Nat} {cs : List (List Value)} {l : List OpJ} (h : Pin b o cs l M w) {j : Nat} (hj : j < l.length) {p : Option Addr} {c : Nat} {q : Option Addr} {e : Nat} (he : cs.getD j [] = l[j].cells p c q e) : Sl M w p l[j].L ∧ Sl M w q l[j].keep := by
  have := (h j hj).2.2
  rw [he] at this
  obtain ⟨p', c', q', e', h1, _, _, _, _, _, h2, h3⟩ := opj_cells this
  simp only [OpJ.cells, List.cons.injEq, Value.slice.injEq, and_true, true_and] at h1
  rw [h1.1.1, h1.2.1]
  exact ⟨h2, h3⟩
theorem opj_cell {w : World} {b o : Nat} {x : OpJ} {p : Option Addr} {c : Nat} {q : Option Addr} {e : Nat} (h : RowAt w b o (x.cells p c q e)) {i : Nat} {v : Value} (hv : (x.cells p c q e)[i]? = some v) : w.cell? ⟨b, o + i, none⟩ = some v := by
  obtain ⟨hi, he⟩ := List.getElem?_eq_some_iff.1 hv
  rw [h i hi, he]
section
variable {W w : World} {S R G : List Own} {Φ : PW}
theorem few_inJ [Stable Φ] {p : Option Addr} {cap : Nat} {l : List OpJ} {b o : Nat} {cs : List (List Value)} (hp : 0 < l.length → p = some ⟨b, o, none⟩) (hΦ : ∀ M w, Φ M w → Pin b o cs l M w) (hlen : l.length ≤ 9223372036854775807) : GivesIn Φ Tryd.prog F.erratalaw06_few #[.slice p l.length cap] (.bool (fewB l)) := by
  refine gives_in (Berratalaw06_few_run p l.length cap) fun W R => ?_
  refine exI_mk (fun n R' Φ' k => ∃ i : Nat, n = i ∧ i + k = l.length ∧ R' = R ∧ Φ' = Φ ∧ ∀ x ∈ l.take i, textsB x.L = true ∧ x.keep.length ≤ 50) ⟨⟨_, Φ, l.length, inferInstance, fun w G cx => cx, 0, rfl, by omega, rfl, rfl, by simp⟩, ?_⟩
  rintro n R1 Φ k _ ⟨i, rfl, hik, rfl, rfl, hall⟩
  refine Br.intro (fun hlt => ?_) (fun hge => fun w G cx => ⟨?_, cx.left⟩)
  · have hlt : i < l.length := by have := of_decide_eq_true hlt; omega
    obtain ⟨k, rfl⟩ : ∃ m, k = m + 1 := ⟨k - 1, by omega⟩
    have hp := hp (by omega)
    have bad : (¬ (textsB l[i].L = true ∧ l[i].keep.length ≤ 50)) → fewB l = false := fun h => by
      unfold fewB
      rw [decide_eq_false fun h2 => h (h2 _ (List.getElem_mem hlt))]; rfl
    refine ⟨⟨by omega, by omega⟩, ptrK_intro b o hp fun w G cx => ?_⟩
    obtain ⟨q, qc, r, rc, he, _, _, hl1, hl2, _⟩ := opj_pin (hΦ _ _ cx.phi) hlt
    refine ⟨q, l[i].L.length, qc, by rw [Int.toNat_natCast]; exact opj_cell (i := 1) (opj_row (hΦ _ _ cx.phi) hlt he) rfl, fun w G cx => (texts_in (fun M w h => (opj_sl (hΦ M w h) hlt he).1) hl1).use cx fun w cx => ⟨textsB l[i].L, rfl, R1, Φ, inferInstance, cx, Br.intro (fun hno => fun w G cx => ⟨?_, cx.left⟩) (fun hyes => ⟨⟨by omega, by omega⟩, ptrK_intro b o hp fun w G cx => ⟨r, l[i].keep.length, rc, by rw [Int.toNat_natCast]; exact opj_cell (i := 3) (opj_row (hΦ _ _ cx.phi) hlt he) rfl, Br.intro (fun hbig => fun w G cx => ⟨?_, cx.left⟩) (fun hok => ⟨by unfold I64; omega, _, Φ, k, inferInstance, fun w G cx => cx, ⟨i + 1, by omega, by omega, rfl, rfl, fun x hx => ?_⟩, Nat.lt_succ_self _⟩)⟩⟩)⟩⟩
    · rw [bad fun h => by rw [h.1] at hno; cases hno]
    · rw [bad fun h => by have := of_decide_eq_true hbig; omega]
    · rw [List.take_succ_eq_append_getElem hlt] at hx
      rcases List.mem_append.1 hx with hx | hx
      · exact hall x hx
      · rw [List.mem_singleton.1 hx]
        exact ⟨by simpa using hyes, by have := of_decide_eq_false hok; omega⟩
  · have hge : i = l.length := by have := of_decide_eq_false hge; omega
    subst hge
    rw [List.take_length] at hall
    unfold fewB
    rw [decide_eq_true hall, Bool.true_and]
    have : decide ((l.length : Int) ≤ 25) = decide (l.length ≤ 25) := decide_eq_decide.2 (by omega)
    rw [this]

theorem WAppend_use [Stable Φ] (hi : JI Φ) {q : DkP} {d : DsS} {x : JoP} {j : JouS} (hm : JM Φ q d x j) (hs : SI d j) {lp : Option Addr} {lc : Nat} {l : List ByteArray} (hsl : ∀ M w, Φ M w → Sl M w lp l) (hl : (formL l).length ≤ 1000000) (cx : Ctx W w (JoO x q j ++ (dkL q d ++ S)) Φ) {K : Ending → World → Prop}
    (hk : ∀ u p c o r w', r = appendS d j l → CallR d j (j.list ++ l) r → JM Φ (q.mv u) r.1 (x.mv p c o) r.2.1 → r.1.keep = d.keep → Ctx W w' (JoO (x.mv p c o) q r.2.1 ++ (dkL (q.mv u) r.1 ++ S)) Φ → K (.returned (.int .i64 r.2.2)) w') :
    Calls Tryd.prog F.journal_Journal_Append #[.pointer (some ⟨x.jb, 0, none⟩), .slice lp l.length lc] w K := by
  have h4 := formL_len (l := l) fun x hx => Nat.le_trans (formL_size hx) (by omega)
  have h5 := hs.len.1
  have h6 := hs.bytes
  refine Append_use hm.dq hm.kk hi.off hi.tab hm.sb hsl (by omega) (by omega) (by omega) cx fun u p c o w hsb hq cx => ?_
  have hkeep := appendS_keep d j l
  exact hk u p c o _ w rfl (append_call hs hm.dq.w) ⟨hq, hm.kk.of hkeep u, hsb⟩ hkeep cx
theorem WCut_use [Stable Φ] (hi : JI Φ) {q : DkP} {d : DsS} {x : JoP} {j : JouS} (hm : JM Φ q d x j) (hs : SI d j) {n : Int} (cx : Ctx W w (JoO x q j ++ (dkL q d ++ S)) Φ) {K : Ending → World → Prop}
    (hk : ∀ u p c o r w', r = cutS d j n → CallR d j (j.list.take n.toNat) r → JM Φ (q.mv u) r.1 (x.mv p c o) r.2.1 → r.1.keep = d.keep → Ctx W w' (JoO (x.mv p c o) q r.2.1 ++ (dkL (q.mv u) r.1 ++ S)) Φ → K (.returned (.int .i64 r.2.2)) w') :
    Calls Tryd.prog F.journal_Journal_Cut #[.pointer (some ⟨x.jb, 0, none⟩), .int .i64 n] w K := by
  have h6 := hs.most
  refine Cut_use hm.dq hm.kk hi.off hi.tab hm.sb (by omega) cx fun u p c o w hsb hq cx => ?_
  have hkeep := cutS_keep d j n
  exact hk u p c o _ w rfl (cut_call hs hm.dq.w) ⟨hq, hm.kk.of hkeep u, hsb⟩ hkeep cx
theorem WOpen_use [Stable Φ] (hi : JI Φ) {q : DkP} {d : DsS} (hq : DkQ q d) (hkk : DkK Φ q d) {b : Int} (hb : 0 ≤ b ∧ b ≤ 14) {P : List ByteArray → Prop} (hJ : JFut d b P) (cx : Ctx W w (dkL q d ++ S) Φ) {K : Ending → World → Prop}
    (hn : ∀ u d' e w', e = 9 ∨ e = 10 → d' = (openJ d b).1 → (DsH d → False) → DkQ (q.mv u) d' → d'.keep = d.keep → JFut d' b P → Ctx W w' (dkL (q.mv u) d' ++ S) Φ → K (.returned (.tuple #[.pointer none, .int .i64 e])) w')
    (hs : ∀ u x d' j w', d' = (openJ d b).1 → (DsH d → DsH d') → JM Φ (q.mv u) d' x j → Live d' j → j.broken = false → P j.list → j.base = b → d'.keep = d.keep → Ctx W w' (JoO x q j ++ (dkL (q.mv u) d' ++ S)) Φ → K (.returned (.tuple #[.pointer (some ⟨x.jb, 0, none⟩), .int .i64 0])) w') :
    Calls Tryd.prog F.journal_Open #[.pointer (some ⟨q.db, 0, none⟩), .int .i64 b] w K := by
  have ho := openJ_out hb hq.w hJ
  refine JOpen_use hq hkk hi.off hi.num cx (fun u d' e w hop hq' hkeep cx => ?_) (fun u x d' j w hop hsb hq' hkeep cx => ?_)
  · rcases ho.or with ⟨j, h1, _⟩ | ⟨_, h1, h2⟩
    · rw [hop] at h1; cases h1
    · have hf := ho.fine
      rw [hop] at h1 h2 hf
      exact hn u d' e w h1 (by rw [hop]) (fun h => by
        have h3 : e = 0 := (hf h).2
        have h1 : e = 9 ∨ e = 10 := h1
        omega) hq' hkeep h2 cx
  · rcases ho.or with ⟨j2, h1, _, h3, h4, h5, h6⟩ | ⟨h1, _⟩
    · have hf := ho.fine
      rw [hop] at h1 h3 hf
      cases h1
      exact hs u x d' j w (by rw [hop]) (fun h => (hf h).1) ⟨hq', hkk.of hkeep u, hsb⟩ h3 h6 h4 h5 hkeep cx
    · rw [hop] at h1; cases h1
end
end Go.Proofs.YtfccagphnfceiaaDoor
end

/-
  The conditions of the walks of some functions, one formula each; 'B<f>_run' says that they suffice. The formulas are printed by a program; the kernel compares them with the functions' code.
-/
section
namespace Go.Proofs.YtfccagphnfceiaaDoor
set_option linter.unusedVariables false
set_option linter.unusedSimpArgs false
set_option maxRecDepth 100000
open Go.Vc

/-- erratalaw06.JournalLasts -/
-- loop at region 14: 7 j, 9 sure, 10 maybe, 11 failed, 12 i; blocks 
-- cut 21: ; blocks 13 o
-- cut 31: 14 next, 15 e; blocks 
-- cut 33: 9 sure; blocks 
-- cut 36: 10 maybe, 11 failed; blocks 
-- cut 46: ; blocks 
-- cut 54: ; blocks 
-- known blocks: 13 o
def Merratalaw06_JournalLasts (lP : Option Addr) (lN lC : Nat) (keepP : Option Addr) (keepN keepC : Nat) (W : World) (R : List Own) (Φ : PW) (J : Value → World → Prop) : Prop :=
  ∀ (w0 : World) (R1 : List Own), Ctx W w0 (R ++ R1) Φ → Calls Tryd.prog F.erratalaw06_small #[] w0 fun (e2 : Ending) (w3 : World) => ∃ (c4 : Bool), e2 = Ending.returned (Value.bool c4) ∧ ∃
  (R5 : List Own), ∃ (Φ6 : PW), Stable Φ6 ∧ Ctx W w3 (R5 ++ R1) Φ6 ∧ ∀ (w7 : World) (R8 : List Own), Ctx W w7 (R5 ++ R8) Φ6 → Calls Tryd.prog F.erratalaw06_few #[Value.slice lP lN lC] w7 fun
  (e9 : Ending) (w10 : World) => ∃ (c11 : Bool), e9 = Ending.returned (Value.bool c11) ∧ ∃ (R12 : List Own), ∃ (Φ13 : PW), Stable Φ13 ∧ Ctx W w10 (R12 ++ R8) Φ13 ∧ Br (!c11) (∀ (w14 : World)
  (R15 : List Own), Ctx W w14 (R12 ++ R15) Φ13 → J (Value.bool c4) w14) (Br (decide (50 < (↑keepN : Int))) (∀ (w16 : World) (R17 : List Own), Ctx W w16 (R12 ++ R17) Φ13 → J (Value.bool c4)
  w16) (∀ (w18 : World) (R19 : List Own), Ctx W w18 (R12 ++ R19) Φ13 → Calls Tryd.prog F.disk_New #[] w18 fun (e20 : Ending) (w21 : World) => ∃ (p22 : Option Addr), e20 = Ending.returned
  (Value.pointer p22) ∧ ∃ (R23 : List Own), ∃ (Φ24 : PW), Stable Φ24 ∧ Ctx W w21 (R23 ++ R19) Φ24 ∧ Br p22.isNone (∀ (w25 : World) (R26 : List Own), Ctx W w25 (R23 ++ R26) Φ24 → J (Value.bool
  false) w25) (∀ (w27 : World) (R28 : List Own), Ctx W w27 (R23 ++ R28) Φ24 → Calls Tryd.prog F.journal_Open #[Value.pointer p22, Value.int IntKind.i64 3] w27 fun (e29 : Ending) (w30 : World)
  => ∃ (p31 : Option Addr), ∃ (n32 : Int), e29 = Ending.returned (Value.tuple #[Value.pointer p31, Value.int IntKind.i64 n32]) ∧ ∃ (R33 : List Own), ∃ (Φ34 : PW), Stable Φ34 ∧ Ctx W w30 (R33
  ++ R28) Φ34 ∧ Br p31.isNone (∀ (w35 : World) (R36 : List Own), Ctx W w35 (R33 ++ R36) Φ34 → J (Value.bool false) w35) (exI fun (I37 : Option Addr → Option Addr → Nat → Nat → Option Addr →
  Nat → Nat → Bool → Int → List Own → PW → Nat → Prop) => (∃ (R38 : List Own), ∃ (Φ39 : PW), ∃ (k40 : Nat), Stable Φ39 ∧ (∀ (w41 : World) (R42 : List Own), Ctx W w41 (R33 ++ R42) Φ34 → Ctx W
  w41 (R38 ++ R42) Φ39) ∧ I37 p31 none 0 0 none 0 0 false 0 R38 Φ39 k40) ∧ ∀ (p43 p44 : Option Addr) (k45 k46 : Nat) (p47 : Option Addr) (k48 k49 : Nat) (c50 : Bool) (n51 : Int) (R52 : List
  Own) (I53 : List Nat → World → Prop) (k54 : Nat), Stable I53 → I37 p43 p44 k45 k46 p47 k48 k49 c50 n51 R52 I53 k54 → Br (decide (n51 ≤ (↑lN : Int))) (∀ (b : Nat), exI fun (I55 : Int →
  Option Addr → Nat → Nat → Int → Option Addr → Nat → Nat → List Own → PW → Prop) => Br (decide (n51 < (↑lN : Int))) ((0 ≤ n51 ∧ n51 < (↑lN : Int)) ∧ ptrK none lP fun (k56 k57 : Nat) => ∀
  (w58 : World) (R59 : List Own), Ctx W w58 (R52 ++ R59) I53 → ∃ (n60 : Int), ∃ (p61 : Option Addr), ∃ (k62 : Nat), ∃ (k63 : Nat), ∃ (n64 : Int), ∃ (p65 : Option Addr), ∃ (k66 : Nat), ∃ (k67
  : Nat), RowAt w58 k56 (k57 + n51.toNat * 4) [Value.int IntKind.i64 n60, Value.slice p61 k62 k63, Value.int IntKind.i64 n64, Value.slice p65 k66 k67] ∧ ∃ (R68 : List Own), ∃ (Φ69 : PW),
  Stable Φ69 ∧ (∀ (w70 : World) (R71 : List Own), Ctx W w70 (R52 ++ R71) I53 → Ctx W w70 (R68 ++ R71) Φ69) ∧ I55 n60 p61 k62 k63 n64 p65 k66 k67 R68 Φ69) (∀ (w72 : World) (R73 : List Own),
  Ctx W w72 (R52 ++ R73) I53 → Calls Tryd.prog F.disk_Disk_Lose #[Value.pointer p22, Value.int IntKind.i64 0] w72 fun (e74 : Ending) (w75 : World) => e74 = Ending.returned (Value.tuple #[]) ∧
  ∃ (R76 : List Own), ∃ (Φ77 : PW), Stable Φ77 ∧ Ctx W w75 (R76 ++ R73) Φ77 ∧ ∀ (w78 : World) (R79 : List Own), Ctx W w78 (R76 ++ R79) Φ77 → Calls Tryd.prog F.disk_Disk_Arm #[Value.pointer
  p22, Value.int IntKind.i64 0, Value.slice none 0 0] w78 fun (e80 : Ending) (w81 : World) => e80 = Ending.returned (Value.tuple #[]) ∧ ∃ (R82 : List Own), ∃ (Φ83 : PW), Stable Φ83 ∧ Ctx W
  w81 (R82 ++ R79) Φ83 ∧ ∃ (R84 : List Own), ∃ (Φ85 : PW), Stable Φ85 ∧ (∀ (w86 : World) (R87 : List Own), Ctx W w86 (R82 ++ R87) Φ83 → Ctx W w86 (R84 ++ R87) Φ85) ∧ I55 4 none 0 0 0 keepP
  keepN keepC R84 Φ85) ∧ ∀ (n88 : Int) (p89 : Option Addr) (k90 k91 : Nat) (n92 : Int) (p93 : Option Addr) (k94 k95 : Nat) (R96 : List Own) (I97 : List Nat → World → Prop), Stable I97 → I55
  n88 p89 k90 k91 n92 p93 k94 k95 R96 I97 → Br (decide (n88 = 0)) (Br (decide (n88 = 0)) (Br p43.isNone (I64 (n51 + 1) ∧ ∃ (R98 : List Own), ∃ (Φ99 : PW), ∃ (k100 : Nat), Stable Φ99 ∧ (∀
  (w101 : World) (R102 : List Own), Ctx W w101 (R96 ++ R102) I97 → Ctx W w101 (R98 ++ R102) Φ99) ∧ I37 p43 p44 k45 k46 p47 k48 k49 c50 (n51 + 1) R98 Φ99 k100 ∧ k100 < k54) (∃ (R103 : List
  Own), ∃ (Φ104 : PW), Stable Φ104 ∧ (∀ (w105 : World) (R106 : List Own), Ctx W w105 (R96 ++ R106) I97 → Ctx W w105 (R103 ++ R106) Φ104) ∧ ∀ (k107 : Nat), (∀ (w108 : World) (R109 : List Own),
  Ctx W w108 (Own.blk k107 [] 9 :: R96 ++ R109) I97 → Ctx W w108 (R103 ++ R109) Φ104) ∧ ∀ (w110 : World) (R111 : List Own), Ctx W w110 (Own.blk k107 [] 9 :: R96 ++ R111) I97 → ∃ (p112 :
  Option Addr), ∃ (k113 : Nat), ∃ (k114 : Nat), ∃ (w115 : World), Sem.run Tryd.prog (builtin Builtin.append #[36, 36] 36 #[false, false] #[Value.slice (some (Addr.mk k107 0 none)) 0 0,
  Value.slice p44 k45 k46]) w110 = Result.ok (Next.value (Value.slice p112 k113 k114)) w115 ∧ ∃ (R116 : List Own), ∃ (Φ117 : PW), Stable Φ117 ∧ Ctx W w115 (R116 ++ R111) Φ117 ∧ (∀ (w118 :
  World) (R119 : List Own), Ctx W w118 (R116 ++ R119) Φ117 → Ctx W w118 (R103 ++ R119) Φ104) ∧ ∀ (w120 : World) (R121 : List Own), Ctx W w120 (R116 ++ R121) Φ117 → ∃ (p122 : Option Addr), ∃
  (k123 : Nat), ∃ (k124 : Nat), ∃ (w125 : World), Sem.run Tryd.prog (builtin Builtin.append #[36, 36] 36 #[false, false] #[Value.slice p112 k113 k114, Value.slice p89 k90 k91]) w120 =
  Result.ok (Next.value (Value.slice p122 k123 k124)) w125 ∧ ∃ (R126 : List Own), ∃ (Φ127 : PW), Stable Φ127 ∧ Ctx W w125 (R126 ++ R121) Φ127 ∧ exI fun (I128 : Option Addr → Nat → Nat → Int →
  List Own → PW → Prop) => Br (decide (n88 = 0)) (∀ (w129 : World) (R130 : List Own), Ctx W w129 (R126 ++ R130) Φ127 → Calls Tryd.prog F.journal_Journal_Append #[Value.pointer p43,
  Value.slice p89 k90 k91] w129 fun (e131 : Ending) (w132 : World) => ∃ (n133 : Int), e131 = Ending.returned (Value.int IntKind.i64 n133) ∧ ∃ (R134 : List Own), ∃ (Φ135 : PW), Stable Φ135 ∧
  Ctx W w132 (R134 ++ R130) Φ135 ∧ ∃ (R136 : List Own), ∃ (Φ137 : PW), Stable Φ137 ∧ (∀ (w138 : World) (R139 : List Own), Ctx W w138 (R134 ++ R139) Φ135 → Ctx W w138 (R136 ++ R139) Φ137) ∧
  I128 p122 k123 k124 n133 R136 Φ137) (∀ (w140 : World) (R141 : List Own), Ctx W w140 (R126 ++ R141) Φ127 → Calls Tryd.prog F.journal_Journal_Cut #[Value.pointer p43, Value.int IntKind.i64
  n92] w140 fun (e142 : Ending) (w143 : World) => ∃ (n144 : Int), e142 = Ending.returned (Value.int IntKind.i64 n144) ∧ ∃ (R145 : List Own), ∃ (Φ146 : PW), Stable Φ146 ∧ Ctx W w143 (R145 ++
  R141) Φ146 ∧ ∀ (k147 : Nat), (0 ≤ max 0 (min n92 (↑k45 : Int)) ∧ max 0 (min n92 (↑k45 : Int)) ≤ (↑k46 : Int)) ∧ ∀ (w148 : World) (R149 : List Own), Ctx W w148 (Own.blk k147 [] 9 :: R145 ++
  R149) Φ146 → ∃ (p150 : Option Addr), ∃ (k151 : Nat), ∃ (k152 : Nat), ∃ (w153 : World), Sem.run Tryd.prog (builtin Builtin.append #[36, 36] 36 #[false, false] #[Value.slice (some (Addr.mk
  k147 0 none)) 0 0, Value.slice (subPtr p44 1 0 k46) (max 0 (min n92 (↑k45 : Int))).toNat k46]) w148 = Result.ok (Next.value (Value.slice p150 k151 k152)) w153 ∧ ∃ (R154 : List Own), ∃ (Φ155
  : PW), Stable Φ155 ∧ Ctx W w153 (R154 ++ R149) Φ155 ∧ ∃ (R156 : List Own), ∃ (Φ157 : PW), Stable Φ157 ∧ (∀ (w158 : World) (R159 : List Own), Ctx W w158 (R154 ++ R159) Φ155 → Ctx W w158
  (R156 ++ R159) Φ157) ∧ I128 p150 k151 k152 n144 R156 Φ157) ∧ ∀ (p160 : Option Addr) (k161 k162 : Nat) (n163 : Int) (R164 : List Own) (I165 : List Nat → World → Prop), Stable I165 → I128
  p160 k161 k162 n163 R164 I165 → exI fun (I166 : Option Addr → Nat → Nat → List Own → PW → Prop) => Br (decide (n163 = 0)) (∃ (R167 : List Own), ∃ (Φ168 : PW), Stable Φ168 ∧ (∀ (w169 :
  World) (R170 : List Own), Ctx W w169 (R164 ++ R170) I165 → Ctx W w169 (R167 ++ R170) Φ168) ∧ I166 p160 k161 k162 R167 Φ168) (∃ (R171 : List Own), ∃ (Φ172 : PW), Stable Φ172 ∧ (∀ (w173 :
  World) (R174 : List Own), Ctx W w173 (R164 ++ R174) I165 → Ctx W w173 (R171 ++ R174) Φ172) ∧ I166 p44 k45 k46 R171 Φ172) ∧ ∀ (p175 : Option Addr) (k176 k177 : Nat) (R178 : List Own) (I179 :
  List Nat → World → Prop), Stable I179 → I166 p175 k176 k177 R178 I179 → exI fun (I180 : Option Addr → Nat → Nat → Bool → List Own → PW → Prop) => (∀ (w181 : World) (R182 : List Own), Ctx W
  w181 (R178 ++ R182) I179 → Calls Tryd.prog F.erratalaw06_disky #[Value.int IntKind.i64 n163] w181 fun (e183 : Ending) (w184 : World) => ∃ (c185 : Bool), e183 = Ending.returned (Value.bool
  c185) ∧ ∃ (R186 : List Own), ∃ (Φ187 : PW), Stable Φ187 ∧ Ctx W w184 (R186 ++ R182) Φ187 ∧ Br c185 (∃ (R188 : List Own), ∃ (Φ189 : PW), Stable Φ189 ∧ (∀ (w190 : World) (R191 : List Own),
  Ctx W w190 (R186 ++ R191) Φ187 → Ctx W w190 (R188 ++ R191) Φ189) ∧ I180 p160 k161 k162 true R188 Φ189) (∃ (R192 : List Own), ∃ (Φ193 : PW), Stable Φ193 ∧ (∀ (w194 : World) (R195 : List
  Own), Ctx W w194 (R186 ++ R195) Φ187 → Ctx W w194 (R192 ++ R195) Φ193) ∧ I180 p47 k48 k49 c50 R192 Φ193)) ∧ ∀ (p196 : Option Addr) (k197 k198 : Nat) (c199 : Bool) (R200 : List Own) (I201 :
  List Nat → World → Prop), Stable I201 → I180 p196 k197 k198 c199 R200 I201 → ∀ (w202 : World) (R203 : List Own), Ctx W w202 (R200 ++ R203) I201 → Calls Tryd.prog F.journal_Journal_All
  #[Value.pointer p43] w202 fun (e204 : Ending) (w205 : World) => ∃ (p206 : Option Addr), ∃ (k207 : Nat), ∃ (k208 : Nat), e204 = Ending.returned (Value.slice p206 k207 k208) ∧ ∃ (R209 : List
  Own), ∃ (Φ210 : PW), Stable Φ210 ∧ Ctx W w205 (R209 ++ R203) Φ210 ∧ ∀ (w211 : World) (R212 : List Own), Ctx W w211 (R209 ++ R212) Φ210 → Calls Tryd.prog F.errataref01_SameTexts
  #[Value.slice p206 k207 k208, Value.slice p175 k176 k177] w211 fun (e213 : Ending) (w214 : World) => ∃ (c215 : Bool), e213 = Ending.returned (Value.bool c215) ∧ ∃ (R216 : List Own), ∃ (Φ217
  : PW), Stable Φ217 ∧ Ctx W w214 (R216 ++ R212) Φ217 ∧ Br (!c215) (∀ (w218 : World) (R219 : List Own), Ctx W w218 (R216 ++ R219) Φ217 → J (Value.bool false) w218) (∀ (w220 : World) (R221 :
  List Own), Ctx W w220 (R216 ++ R221) Φ217 → Calls Tryd.prog F.journal_Journal_Len #[Value.pointer p43] w220 fun (e222 : Ending) (w223 : World) => ∃ (n224 : Int), e222 = Ending.returned
  (Value.int IntKind.i64 n224) ∧ ∃ (R225 : List Own), ∃ (Φ226 : PW), Stable Φ226 ∧ Ctx W w223 (R225 ++ R221) Φ226 ∧ Br (decide (n224 ≠ (↑k176 : Int))) (∀ (w227 : World) (R228 : List Own), Ctx
  W w227 (R225 ++ R228) Φ226 → J (Value.bool false) w227) (I64 (n51 + 1) ∧ ∃ (R229 : List Own), ∃ (Φ230 : PW), ∃ (k231 : Nat), Stable Φ230 ∧ (∀ (w232 : World) (R233 : List Own), Ctx W w232
  (R225 ++ R233) Φ226 → Ctx W w232 (R229 ++ R233) Φ230) ∧ I37 p43 p175 k176 k177 p196 k197 k198 c199 (n51 + 1) R229 Φ230 k231 ∧ k231 < k54)))) (Br (decide (n88 = 2)) (∀ (w234 : World) (R235 :
  List Own), Ctx W w234 (R96 ++ R235) I97 → Calls Tryd.prog F.disk_Disk_Lose #[Value.pointer p22, Value.int IntKind.i64 n92] w234 fun (e236 : Ending) (w237 : World) => e236 = Ending.returned
  (Value.tuple #[]) ∧ ∃ (R238 : List Own), ∃ (Φ239 : PW), Stable Φ239 ∧ Ctx W w237 (R238 ++ R235) Φ239 ∧ I64 (n51 + 1) ∧ ∃ (R240 : List Own), ∃ (Φ241 : PW), ∃ (k242 : Nat), Stable Φ241 ∧ (∀
  (w243 : World) (R244 : List Own), Ctx W w243 (R238 ++ R244) Φ239 → Ctx W w243 (R240 ++ R244) Φ241) ∧ I37 p43 p44 k45 k46 p47 k48 k49 c50 (n51 + 1) R240 Φ241 k242 ∧ k242 < k54) (Br (decide
  (n88 = 3)) (∀ (w245 : World) (R246 : List Own), Ctx W w245 (R96 ++ R246) I97 → Calls Tryd.prog F.disk_Disk_Arm #[Value.pointer p22, Value.int IntKind.i64 n92, Value.slice p93 k94 k95] w245
  fun (e247 : Ending) (w248 : World) => e247 = Ending.returned (Value.tuple #[]) ∧ ∃ (R249 : List Own), ∃ (Φ250 : PW), Stable Φ250 ∧ Ctx W w248 (R249 ++ R246) Φ250 ∧ I64 (n51 + 1) ∧ ∃ (R251 :
  List Own), ∃ (Φ252 : PW), ∃ (k253 : Nat), Stable Φ252 ∧ (∀ (w254 : World) (R255 : List Own), Ctx W w254 (R249 ++ R255) Φ250 → Ctx W w254 (R251 ++ R255) Φ252) ∧ I37 p43 p44 k45 k46 p47 k48
  k49 c50 (n51 + 1) R251 Φ252 k253 ∧ k253 < k54) (Br (decide (n88 = 4)) (Br (decide (n88 = 4)) (exI fun (I256 : List Own → PW → Prop) => Br (decide (n88 = 4)) (∀ (w257 : World) (R258 : List
  Own), Ctx W w257 (R96 ++ R258) I97 → Calls Tryd.prog F.disk_Disk_Crash #[Value.pointer p22, Value.slice p93 k94 k95] w257 fun (e259 : Ending) (w260 : World) => e259 = Ending.returned
  (Value.tuple #[]) ∧ ∃ (R261 : List Own), ∃ (Φ262 : PW), Stable Φ262 ∧ Ctx W w260 (R261 ++ R258) Φ262 ∧ ∃ (R263 : List Own), ∃ (Φ264 : PW), Stable Φ264 ∧ (∀ (w265 : World) (R266 : List Own),
  Ctx W w265 (R261 ++ R266) Φ262 → Ctx W w265 (R263 ++ R266) Φ264) ∧ I256 R263 Φ264) (∃ (R267 : List Own), ∃ (Φ268 : PW), Stable Φ268 ∧ (∀ (w269 : World) (R270 : List Own), Ctx W w269 (R96 ++
  R270) I97 → Ctx W w269 (R267 ++ R270) Φ268) ∧ I256 R267 Φ268) ∧ ∀ (R271 : List Own) (I272 : List Nat → World → Prop), Stable I272 → I256 R271 I272 → ∀ (w273 : World) (R274 : List Own), Ctx
  W w273 (R271 ++ R274) I272 → Calls Tryd.prog F.disk_Disk_Start #[Value.pointer p22] w273 fun (e275 : Ending) (w276 : World) => e275 = Ending.returned (Value.tuple #[]) ∧ ∃ (R277 : List
  Own), ∃ (Φ278 : PW), Stable Φ278 ∧ Ctx W w276 (R277 ++ R274) Φ278 ∧ ∀ (w279 : World) (R280 : List Own), Ctx W w279 (R277 ++ R280) Φ278 → Calls Tryd.prog F.journal_Open #[Value.pointer p22,
  Value.int IntKind.i64 3] w279 fun (e281 : Ending) (w282 : World) => ∃ (p283 : Option Addr), ∃ (n284 : Int), e281 = Ending.returned (Value.tuple #[Value.pointer p283, Value.int IntKind.i64
  n284]) ∧ ∃ (R285 : List Own), ∃ (Φ286 : PW), Stable Φ286 ∧ Ctx W w282 (R285 ++ R280) Φ286 ∧ Br p283.isNone (∀ (w287 : World) (R288 : List Own), Ctx W w287 (R285 ++ R288) Φ286 → Calls
  Tryd.prog F.erratalaw06_disky #[Value.int IntKind.i64 n284] w287 fun (e289 : Ending) (w290 : World) => ∃ (c291 : Bool), e289 = Ending.returned (Value.bool c291) ∧ ∃ (R292 : List Own), ∃
  (Φ293 : PW), Stable Φ293 ∧ Ctx W w290 (R292 ++ R288) Φ293 ∧ Br (!c291) (∀ (w294 : World) (R295 : List Own), Ctx W w294 (R292 ++ R295) Φ293 → J (Value.bool false) w294) (Br (decide (n51 =
  (↑lN : Int))) (∀ (w296 : World) (R297 : List Own), Ctx W w296 (R292 ++ R297) Φ293 → J (Value.bool false) w296) (I64 (n51 + 1) ∧ ∃ (R298 : List Own), ∃ (Φ299 : PW), ∃ (k300 : Nat), Stable
  Φ299 ∧ (∀ (w301 : World) (R302 : List Own), Ctx W w301 (R292 ++ R302) Φ293 → Ctx W w301 (R298 ++ R302) Φ299) ∧ I37 p283 p44 k45 k46 p47 k48 k49 c50 (n51 + 1) R298 Φ299 k300 ∧ k300 < k54)))
  (exI fun (I303 : List Own → PW → Prop) => Br (decide (n284 ≠ 0)) (∀ (w304 : World) (R305 : List Own), Ctx W w304 (R285 ++ R305) Φ286 → J (Value.bool false) w304) (∀ (w306 : World) (R307 :
  List Own), Ctx W w306 (R285 ++ R307) Φ286 → Calls Tryd.prog F.journal_Journal_All #[Value.pointer p283] w306 fun (e308 : Ending) (w309 : World) => ∃ (p310 : Option Addr), ∃ (k311 : Nat), ∃
  (k312 : Nat), e308 = Ending.returned (Value.slice p310 k311 k312) ∧ ∃ (R313 : List Own), ∃ (Φ314 : PW), Stable Φ314 ∧ Ctx W w309 (R313 ++ R307) Φ314 ∧ ∀ (w315 : World) (R316 : List Own),
  Ctx W w315 (R313 ++ R316) Φ314 → Calls Tryd.prog F.errataref01_SameTexts #[Value.slice p310 k311 k312, Value.slice p44 k45 k46] w315 fun (e317 : Ending) (w318 : World) => ∃ (c319 : Bool),
  e317 = Ending.returned (Value.bool c319) ∧ ∃ (R320 : List Own), ∃ (Φ321 : PW), Stable Φ321 ∧ Ctx W w318 (R320 ++ R316) Φ321 ∧ Br (!c319) (Br c50 (∀ (w322 : World) (R323 : List Own), Ctx W
  w322 (R320 ++ R323) Φ321 → Calls Tryd.prog F.journal_Journal_All #[Value.pointer p283] w322 fun (e324 : Ending) (w325 : World) => ∃ (p326 : Option Addr), ∃ (k327 : Nat), ∃ (k328 : Nat),
  e324 = Ending.returned (Value.slice p326 k327 k328) ∧ ∃ (R329 : List Own), ∃ (Φ330 : PW), Stable Φ330 ∧ Ctx W w325 (R329 ++ R323) Φ330 ∧ ∀ (w331 : World) (R332 : List Own), Ctx W w331 (R329
  ++ R332) Φ330 → Calls Tryd.prog F.errataref01_SameTexts #[Value.slice p326 k327 k328, Value.slice p47 k48 k49] w331 fun (e333 : Ending) (w334 : World) => ∃ (c335 : Bool), e333 =
  Ending.returned (Value.bool c335) ∧ ∃ (R336 : List Own), ∃ (Φ337 : PW), Stable Φ337 ∧ Ctx W w334 (R336 ++ R332) Φ337 ∧ Br (!c335) (∀ (w338 : World) (R339 : List Own), Ctx W w338 (R336 ++
  R339) Φ337 → J (Value.bool false) w338) (∃ (R340 : List Own), ∃ (Φ341 : PW), Stable Φ341 ∧ (∀ (w342 : World) (R343 : List Own), Ctx W w342 (R336 ++ R343) Φ337 → Ctx W w342 (R340 ++ R343)
  Φ341) ∧ I303 R340 Φ341)) (∀ (w344 : World) (R345 : List Own), Ctx W w344 (R320 ++ R345) Φ321 → J (Value.bool false) w344)) (∃ (R346 : List Own), ∃ (Φ347 : PW), Stable Φ347 ∧ (∀ (w348 :
  World) (R349 : List Own), Ctx W w348 (R320 ++ R349) Φ321 → Ctx W w348 (R346 ++ R349) Φ347) ∧ I303 R346 Φ347)) ∧ ∀ (R350 : List Own) (I351 : List Nat → World → Prop), Stable I351 → I303 R350
  I351 → ∀ (w352 : World) (R353 : List Own), Ctx W w352 (R350 ++ R353) I351 → Calls Tryd.prog F.journal_Journal_All #[Value.pointer p283] w352 fun (e354 : Ending) (w355 : World) => ∃ (p356 :
  Option Addr), ∃ (k357 : Nat), ∃ (k358 : Nat), e354 = Ending.returned (Value.slice p356 k357 k358) ∧ ∃ (R359 : List Own), ∃ (Φ360 : PW), Stable Φ360 ∧ Ctx W w355 (R359 ++ R353) Φ360 ∧ I64
  (n51 + 1) ∧ ∃ (R361 : List Own), ∃ (Φ362 : PW), ∃ (k363 : Nat), Stable Φ362 ∧ (∀ (w364 : World) (R365 : List Own), Ctx W w364 (R359 ++ R365) Φ360 → Ctx W w364 (R361 ++ R365) Φ362) ∧ I37
  p283 p356 k357 k358 p47 k48 k49 false (n51 + 1) R361 Φ362 k363 ∧ k363 < k54)) (I64 (n51 + 1) ∧ ∃ (R366 : List Own), ∃ (Φ367 : PW), ∃ (k368 : Nat), Stable Φ367 ∧ (∀ (w369 : World) (R370 :
  List Own), Ctx W w369 (R96 ++ R370) I97 → Ctx W w369 (R366 ++ R370) Φ367) ∧ I37 p43 p44 k45 k46 p47 k48 k49 c50 (n51 + 1) R366 Φ367 k368 ∧ k368 < k54)) (Br (decide (n88 = 5)) (exI fun (I371
  : List Own → PW → Prop) => Br (decide (n88 = 4)) (∀ (w372 : World) (R373 : List Own), Ctx W w372 (R96 ++ R373) I97 → Calls Tryd.prog F.disk_Disk_Crash #[Value.pointer p22, Value.slice p93
  k94 k95] w372 fun (e374 : Ending) (w375 : World) => e374 = Ending.returned (Value.tuple #[]) ∧ ∃ (R376 : List Own), ∃ (Φ377 : PW), Stable Φ377 ∧ Ctx W w375 (R376 ++ R373) Φ377 ∧ ∃ (R378 :
  List Own), ∃ (Φ379 : PW), Stable Φ379 ∧ (∀ (w380 : World) (R381 : List Own), Ctx W w380 (R376 ++ R381) Φ377 → Ctx W w380 (R378 ++ R381) Φ379) ∧ I371 R378 Φ379) (∃ (R382 : List Own), ∃ (Φ383
  : PW), Stable Φ383 ∧ (∀ (w384 : World) (R385 : List Own), Ctx W w384 (R96 ++ R385) I97 → Ctx W w384 (R382 ++ R385) Φ383) ∧ I371 R382 Φ383) ∧ ∀ (R386 : List Own) (I387 : List Nat → World →
  Prop), Stable I387 → I371 R386 I387 → ∀ (w388 : World) (R389 : List Own), Ctx W w388 (R386 ++ R389) I387 → Calls Tryd.prog F.disk_Disk_Start #[Value.pointer p22] w388 fun (e390 : Ending)
  (w391 : World) => e390 = Ending.returned (Value.tuple #[]) ∧ ∃ (R392 : List Own), ∃ (Φ393 : PW), Stable Φ393 ∧ Ctx W w391 (R392 ++ R389) Φ393 ∧ ∀ (w394 : World) (R395 : List Own), Ctx W
  w394 (R392 ++ R395) Φ393 → Calls Tryd.prog F.journal_Open #[Value.pointer p22, Value.int IntKind.i64 3] w394 fun (e396 : Ending) (w397 : World) => ∃ (p398 : Option Addr), ∃ (n399 : Int),
  e396 = Ending.returned (Value.tuple #[Value.pointer p398, Value.int IntKind.i64 n399]) ∧ ∃ (R400 : List Own), ∃ (Φ401 : PW), Stable Φ401 ∧ Ctx W w397 (R400 ++ R395) Φ401 ∧ Br p398.isNone (∀
  (w402 : World) (R403 : List Own), Ctx W w402 (R400 ++ R403) Φ401 → Calls Tryd.prog F.erratalaw06_disky #[Value.int IntKind.i64 n399] w402 fun (e404 : Ending) (w405 : World) => ∃ (c406 :
  Bool), e404 = Ending.returned (Value.bool c406) ∧ ∃ (R407 : List Own), ∃ (Φ408 : PW), Stable Φ408 ∧ Ctx W w405 (R407 ++ R403) Φ408 ∧ Br (!c406) (∀ (w409 : World) (R410 : List Own), Ctx W
  w409 (R407 ++ R410) Φ408 → J (Value.bool false) w409) (Br (decide (n51 = (↑lN : Int))) (∀ (w411 : World) (R412 : List Own), Ctx W w411 (R407 ++ R412) Φ408 → J (Value.bool false) w411) (I64
  (n51 + 1) ∧ ∃ (R413 : List Own), ∃ (Φ414 : PW), ∃ (k415 : Nat), Stable Φ414 ∧ (∀ (w416 : World) (R417 : List Own), Ctx W w416 (R407 ++ R417) Φ408 → Ctx W w416 (R413 ++ R417) Φ414) ∧ I37
  p398 p44 k45 k46 p47 k48 k49 c50 (n51 + 1) R413 Φ414 k415 ∧ k415 < k54))) (exI fun (I418 : List Own → PW → Prop) => Br (decide (n399 ≠ 0)) (∀ (w419 : World) (R420 : List Own), Ctx W w419
  (R400 ++ R420) Φ401 → J (Value.bool false) w419) (∀ (w421 : World) (R422 : List Own), Ctx W w421 (R400 ++ R422) Φ401 → Calls Tryd.prog F.journal_Journal_All #[Value.pointer p398] w421 fun
  (e423 : Ending) (w424 : World) => ∃ (p425 : Option Addr), ∃ (k426 : Nat), ∃ (k427 : Nat), e423 = Ending.returned (Value.slice p425 k426 k427) ∧ ∃ (R428 : List Own), ∃ (Φ429 : PW), Stable
  Φ429 ∧ Ctx W w424 (R428 ++ R422) Φ429 ∧ ∀ (w430 : World) (R431 : List Own), Ctx W w430 (R428 ++ R431) Φ429 → Calls Tryd.prog F.errataref01_SameTexts #[Value.slice p425 k426 k427,
  Value.slice p44 k45 k46] w430 fun (e432 : Ending) (w433 : World) => ∃ (c434 : Bool), e432 = Ending.returned (Value.bool c434) ∧ ∃ (R435 : List Own), ∃ (Φ436 : PW), Stable Φ436 ∧ Ctx W w433
  (R435 ++ R431) Φ436 ∧ Br (!c434) (Br c50 (∀ (w437 : World) (R438 : List Own), Ctx W w437 (R435 ++ R438) Φ436 → Calls Tryd.prog F.journal_Journal_All #[Value.pointer p398] w437 fun (e439 :
  Ending) (w440 : World) => ∃ (p441 : Option Addr), ∃ (k442 : Nat), ∃ (k443 : Nat), e439 = Ending.returned (Value.slice p441 k442 k443) ∧ ∃ (R444 : List Own), ∃ (Φ445 : PW), Stable Φ445 ∧ Ctx
  W w440 (R444 ++ R438) Φ445 ∧ ∀ (w446 : World) (R447 : List Own), Ctx W w446 (R444 ++ R447) Φ445 → Calls Tryd.prog F.errataref01_SameTexts #[Value.slice p441 k442 k443, Value.slice p47 k48
  k49] w446 fun (e448 : Ending) (w449 : World) => ∃ (c450 : Bool), e448 = Ending.returned (Value.bool c450) ∧ ∃ (R451 : List Own), ∃ (Φ452 : PW), Stable Φ452 ∧ Ctx W w449 (R451 ++ R447) Φ452
  ∧ Br (!c450) (∀ (w453 : World) (R454 : List Own), Ctx W w453 (R451 ++ R454) Φ452 → J (Value.bool false) w453) (∃ (R455 : List Own), ∃ (Φ456 : PW), Stable Φ456 ∧ (∀ (w457 : World) (R458 :
  List Own), Ctx W w457 (R451 ++ R458) Φ452 → Ctx W w457 (R455 ++ R458) Φ456) ∧ I418 R455 Φ456)) (∀ (w459 : World) (R460 : List Own), Ctx W w459 (R435 ++ R460) Φ436 → J (Value.bool false)
  w459)) (∃ (R461 : List Own), ∃ (Φ462 : PW), Stable Φ462 ∧ (∀ (w463 : World) (R464 : List Own), Ctx W w463 (R435 ++ R464) Φ436 → Ctx W w463 (R461 ++ R464) Φ462) ∧ I418 R461 Φ462)) ∧ ∀ (R465
  : List Own) (I466 : List Nat → World → Prop), Stable I466 → I418 R465 I466 → ∀ (w467 : World) (R468 : List Own), Ctx W w467 (R465 ++ R468) I466 → Calls Tryd.prog F.journal_Journal_All
  #[Value.pointer p398] w467 fun (e469 : Ending) (w470 : World) => ∃ (p471 : Option Addr), ∃ (k472 : Nat), ∃ (k473 : Nat), e469 = Ending.returned (Value.slice p471 k472 k473) ∧ ∃ (R474 : List
  Own), ∃ (Φ475 : PW), Stable Φ475 ∧ Ctx W w470 (R474 ++ R468) Φ475 ∧ I64 (n51 + 1) ∧ ∃ (R476 : List Own), ∃ (Φ477 : PW), ∃ (k478 : Nat), Stable Φ477 ∧ (∀ (w479 : World) (R480 : List Own),
  Ctx W w479 (R474 ++ R480) Φ475 → Ctx W w479 (R476 ++ R480) Φ477) ∧ I37 p398 p471 k472 k473 p47 k48 k49 false (n51 + 1) R476 Φ477 k478 ∧ k478 < k54)) (I64 (n51 + 1) ∧ ∃ (R481 : List Own), ∃
  (Φ482 : PW), ∃ (k483 : Nat), Stable Φ482 ∧ (∀ (w484 : World) (R485 : List Own), Ctx W w484 (R96 ++ R485) I97 → Ctx W w484 (R481 ++ R485) Φ482) ∧ I37 p43 p44 k45 k46 p47 k48 k49 c50 (n51 +
  1) R481 Φ482 k483 ∧ k483 < k54)))))) (Br (decide (n88 = 1)) (Br p43.isNone (I64 (n51 + 1) ∧ ∃ (R486 : List Own), ∃ (Φ487 : PW), ∃ (k488 : Nat), Stable Φ487 ∧ (∀ (w489 : World) (R490 : List
  Own), Ctx W w489 (R96 ++ R490) I97 → Ctx W w489 (R486 ++ R490) Φ487) ∧ I37 p43 p44 k45 k46 p47 k48 k49 c50 (n51 + 1) R486 Φ487 k488 ∧ k488 < k54) (∃ (R491 : List Own), ∃ (Φ492 : PW), Stable
  Φ492 ∧ (∀ (w493 : World) (R494 : List Own), Ctx W w493 (R96 ++ R494) I97 → Ctx W w493 (R491 ++ R494) Φ492) ∧ ∀ (k495 : Nat), (∀ (w496 : World) (R497 : List Own), Ctx W w496 (Own.blk k495 []
  9 :: R96 ++ R497) I97 → Ctx W w496 (R491 ++ R497) Φ492) ∧ ∀ (w498 : World) (R499 : List Own), Ctx W w498 (Own.blk k495 [] 9 :: R96 ++ R499) I97 → ∃ (p500 : Option Addr), ∃ (k501 : Nat), ∃
  (k502 : Nat), ∃ (w503 : World), Sem.run Tryd.prog (builtin Builtin.append #[36, 36] 36 #[false, false] #[Value.slice (some (Addr.mk k495 0 none)) 0 0, Value.slice p44 k45 k46]) w498 =
  Result.ok (Next.value (Value.slice p500 k501 k502)) w503 ∧ ∃ (R504 : List Own), ∃ (Φ505 : PW), Stable Φ505 ∧ Ctx W w503 (R504 ++ R499) Φ505 ∧ (∀ (w506 : World) (R507 : List Own), Ctx W w506
  (R504 ++ R507) Φ505 → Ctx W w506 (R491 ++ R507) Φ492) ∧ ∀ (w508 : World) (R509 : List Own), Ctx W w508 (R504 ++ R509) Φ505 → ∃ (p510 : Option Addr), ∃ (k511 : Nat), ∃ (k512 : Nat), ∃ (w513
  : World), Sem.run Tryd.prog (builtin Builtin.append #[36, 36] 36 #[false, false] #[Value.slice p500 k501 k502, Value.slice p89 k90 k91]) w508 = Result.ok (Next.value (Value.slice p510 k511
  k512)) w513 ∧ ∃ (R514 : List Own), ∃ (Φ515 : PW), Stable Φ515 ∧ Ctx W w513 (R514 ++ R509) Φ515 ∧ exI fun (I516 : Option Addr → Nat → Nat → Int → List Own → PW → Prop) => Br (decide (n88 =
  0)) (∀ (w517 : World) (R518 : List Own), Ctx W w517 (R514 ++ R518) Φ515 → Calls Tryd.prog F.journal_Journal_Append #[Value.pointer p43, Value.slice p89 k90 k91] w517 fun (e519 : Ending)
  (w520 : World) => ∃ (n521 : Int), e519 = Ending.returned (Value.int IntKind.i64 n521) ∧ ∃ (R522 : List Own), ∃ (Φ523 : PW), Stable Φ523 ∧ Ctx W w520 (R522 ++ R518) Φ523 ∧ ∃ (R524 : List
  Own), ∃ (Φ525 : PW), Stable Φ525 ∧ (∀ (w526 : World) (R527 : List Own), Ctx W w526 (R522 ++ R527) Φ523 → Ctx W w526 (R524 ++ R527) Φ525) ∧ I516 p510 k511 k512 n521 R524 Φ525) (∀ (w528 :
  World) (R529 : List Own), Ctx W w528 (R514 ++ R529) Φ515 → Calls Tryd.prog F.journal_Journal_Cut #[Value.pointer p43, Value.int IntKind.i64 n92] w528 fun (e530 : Ending) (w531 : World) => ∃
  (n532 : Int), e530 = Ending.returned (Value.int IntKind.i64 n532) ∧ ∃ (R533 : List Own), ∃ (Φ534 : PW), Stable Φ534 ∧ Ctx W w531 (R533 ++ R529) Φ534 ∧ ∀ (k535 : Nat), (0 ≤ max 0 (min n92
  (↑k45 : Int)) ∧ max 0 (min n92 (↑k45 : Int)) ≤ (↑k46 : Int)) ∧ ∀ (w536 : World) (R537 : List Own), Ctx W w536 (Own.blk k535 [] 9 :: R533 ++ R537) Φ534 → ∃ (p538 : Option Addr), ∃ (k539 :
  Nat), ∃ (k540 : Nat), ∃ (w541 : World), Sem.run Tryd.prog (builtin Builtin.append #[36, 36] 36 #[false, false] #[Value.slice (some (Addr.mk k535 0 none)) 0 0, Value.slice (subPtr p44 1 0
  k46) (max 0 (min n92 (↑k45 : Int))).toNat k46]) w536 = Result.ok (Next.value (Value.slice p538 k539 k540)) w541 ∧ ∃ (R542 : List Own), ∃ (Φ543 : PW), Stable Φ543 ∧ Ctx W w541 (R542 ++ R537)
  Φ543 ∧ ∃ (R544 : List Own), ∃ (Φ545 : PW), Stable Φ545 ∧ (∀ (w546 : World) (R547 : List Own), Ctx W w546 (R542 ++ R547) Φ543 → Ctx W w546 (R544 ++ R547) Φ545) ∧ I516 p538 k539 k540 n532
  R544 Φ545) ∧ ∀ (p548 : Option Addr) (k549 k550 : Nat) (n551 : Int) (R552 : List Own) (I553 : List Nat → World → Prop), Stable I553 → I516 p548 k549 k550 n551 R552 I553 → exI fun (I554 :
  Option Addr → Nat → Nat → List Own → PW → Prop) => Br (decide (n551 = 0)) (∃ (R555 : List Own), ∃ (Φ556 : PW), Stable Φ556 ∧ (∀ (w557 : World) (R558 : List Own), Ctx W w557 (R552 ++ R558)
  I553 → Ctx W w557 (R555 ++ R558) Φ556) ∧ I554 p548 k549 k550 R555 Φ556) (∃ (R559 : List Own), ∃ (Φ560 : PW), Stable Φ560 ∧ (∀ (w561 : World) (R562 : List Own), Ctx W w561 (R552 ++ R562)
  I553 → Ctx W w561 (R559 ++ R562) Φ560) ∧ I554 p44 k45 k46 R559 Φ560) ∧ ∀ (p563 : Option Addr) (k564 k565 : Nat) (R566 : List Own) (I567 : List Nat → World → Prop), Stable I567 → I554 p563
  k564 k565 R566 I567 → exI fun (I568 : Option Addr → Nat → Nat → Bool → List Own → PW → Prop) => (∀ (w569 : World) (R570 : List Own), Ctx W w569 (R566 ++ R570) I567 → Calls Tryd.prog
  F.erratalaw06_disky #[Value.int IntKind.i64 n551] w569 fun (e571 : Ending) (w572 : World) => ∃ (c573 : Bool), e571 = Ending.returned (Value.bool c573) ∧ ∃ (R574 : List Own), ∃ (Φ575 : PW),
  Stable Φ575 ∧ Ctx W w572 (R574 ++ R570) Φ575 ∧ Br c573 (∃ (R576 : List Own), ∃ (Φ577 : PW), Stable Φ577 ∧ (∀ (w578 : World) (R579 : List Own), Ctx W w578 (R574 ++ R579) Φ575 → Ctx W w578
  (R576 ++ R579) Φ577) ∧ I568 p548 k549 k550 true R576 Φ577) (∃ (R580 : List Own), ∃ (Φ581 : PW), Stable Φ581 ∧ (∀ (w582 : World) (R583 : List Own), Ctx W w582 (R574 ++ R583) Φ575 → Ctx W
  w582 (R580 ++ R583) Φ581) ∧ I568 p47 k48 k49 c50 R580 Φ581)) ∧ ∀ (p584 : Option Addr) (k585 k586 : Nat) (c587 : Bool) (R588 : List Own) (I589 : List Nat → World → Prop), Stable I589 → I568
  p584 k585 k586 c587 R588 I589 → ∀ (w590 : World) (R591 : List Own), Ctx W w590 (R588 ++ R591) I589 → Calls Tryd.prog F.journal_Journal_All #[Value.pointer p43] w590 fun (e592 : Ending)
  (w593 : World) => ∃ (p594 : Option Addr), ∃ (k595 : Nat), ∃ (k596 : Nat), e592 = Ending.returned (Value.slice p594 k595 k596) ∧ ∃ (R597 : List Own), ∃ (Φ598 : PW), Stable Φ598 ∧ Ctx W w593
  (R597 ++ R591) Φ598 ∧ ∀ (w599 : World) (R600 : List Own), Ctx W w599 (R597 ++ R600) Φ598 → Calls Tryd.prog F.errataref01_SameTexts #[Value.slice p594 k595 k596, Value.slice p563 k564 k565]
  w599 fun (e601 : Ending) (w602 : World) => ∃ (c603 : Bool), e601 = Ending.returned (Value.bool c603) ∧ ∃ (R604 : List Own), ∃ (Φ605 : PW), Stable Φ605 ∧ Ctx W w602 (R604 ++ R600) Φ605 ∧ Br
  (!c603) (∀ (w606 : World) (R607 : List Own), Ctx W w606 (R604 ++ R607) Φ605 → J (Value.bool false) w606) (∀ (w608 : World) (R609 : List Own), Ctx W w608 (R604 ++ R609) Φ605 → Calls
  Tryd.prog F.journal_Journal_Len #[Value.pointer p43] w608 fun (e610 : Ending) (w611 : World) => ∃ (n612 : Int), e610 = Ending.returned (Value.int IntKind.i64 n612) ∧ ∃ (R613 : List Own), ∃
  (Φ614 : PW), Stable Φ614 ∧ Ctx W w611 (R613 ++ R609) Φ614 ∧ Br (decide (n612 ≠ (↑k564 : Int))) (∀ (w615 : World) (R616 : List Own), Ctx W w615 (R613 ++ R616) Φ614 → J (Value.bool false)
  w615) (I64 (n51 + 1) ∧ ∃ (R617 : List Own), ∃ (Φ618 : PW), ∃ (k619 : Nat), Stable Φ618 ∧ (∀ (w620 : World) (R621 : List Own), Ctx W w620 (R613 ++ R621) Φ614 → Ctx W w620 (R617 ++ R621)
  Φ618) ∧ I37 p43 p563 k564 k565 p584 k585 k586 c587 (n51 + 1) R617 Φ618 k619 ∧ k619 < k54)))) (Br (decide (n88 = 2)) (∀ (w622 : World) (R623 : List Own), Ctx W w622 (R96 ++ R623) I97 → Calls
  Tryd.prog F.disk_Disk_Lose #[Value.pointer p22, Value.int IntKind.i64 n92] w622 fun (e624 : Ending) (w625 : World) => e624 = Ending.returned (Value.tuple #[]) ∧ ∃ (R626 : List Own), ∃ (Φ627
  : PW), Stable Φ627 ∧ Ctx W w625 (R626 ++ R623) Φ627 ∧ I64 (n51 + 1) ∧ ∃ (R628 : List Own), ∃ (Φ629 : PW), ∃ (k630 : Nat), Stable Φ629 ∧ (∀ (w631 : World) (R632 : List Own), Ctx W w631 (R626
  ++ R632) Φ627 → Ctx W w631 (R628 ++ R632) Φ629) ∧ I37 p43 p44 k45 k46 p47 k48 k49 c50 (n51 + 1) R628 Φ629 k630 ∧ k630 < k54) (Br (decide (n88 = 3)) (∀ (w633 : World) (R634 : List Own), Ctx
  W w633 (R96 ++ R634) I97 → Calls Tryd.prog F.disk_Disk_Arm #[Value.pointer p22, Value.int IntKind.i64 n92, Value.slice p93 k94 k95] w633 fun (e635 : Ending) (w636 : World) => e635 =
  Ending.returned (Value.tuple #[]) ∧ ∃ (R637 : List Own), ∃ (Φ638 : PW), Stable Φ638 ∧ Ctx W w636 (R637 ++ R634) Φ638 ∧ I64 (n51 + 1) ∧ ∃ (R639 : List Own), ∃ (Φ640 : PW), ∃ (k641 : Nat),
  Stable Φ640 ∧ (∀ (w642 : World) (R643 : List Own), Ctx W w642 (R637 ++ R643) Φ638 → Ctx W w642 (R639 ++ R643) Φ640) ∧ I37 p43 p44 k45 k46 p47 k48 k49 c50 (n51 + 1) R639 Φ640 k641 ∧ k641 <
  k54) (Br (decide (n88 = 4)) (Br (decide (n88 = 4)) (exI fun (I644 : List Own → PW → Prop) => Br (decide (n88 = 4)) (∀ (w645 : World) (R646 : List Own), Ctx W w645 (R96 ++ R646) I97 → Calls
  Tryd.prog F.disk_Disk_Crash #[Value.pointer p22, Value.slice p93 k94 k95] w645 fun (e647 : Ending) (w648 : World) => e647 = Ending.returned (Value.tuple #[]) ∧ ∃ (R649 : List Own), ∃ (Φ650
  : PW), Stable Φ650 ∧ Ctx W w648 (R649 ++ R646) Φ650 ∧ ∃ (R651 : List Own), ∃ (Φ652 : PW), Stable Φ652 ∧ (∀ (w653 : World) (R654 : List Own), Ctx W w653 (R649 ++ R654) Φ650 → Ctx W w653
  (R651 ++ R654) Φ652) ∧ I644 R651 Φ652) (∃ (R655 : List Own), ∃ (Φ656 : PW), Stable Φ656 ∧ (∀ (w657 : World) (R658 : List Own), Ctx W w657 (R96 ++ R658) I97 → Ctx W w657 (R655 ++ R658) Φ656)
  ∧ I644 R655 Φ656) ∧ ∀ (R659 : List Own) (I660 : List Nat → World → Prop), Stable I660 → I644 R659 I660 → ∀ (w661 : World) (R662 : List Own), Ctx W w661 (R659 ++ R662) I660 → Calls Tryd.prog
  F.disk_Disk_Start #[Value.pointer p22] w661 fun (e663 : Ending) (w664 : World) => e663 = Ending.returned (Value.tuple #[]) ∧ ∃ (R665 : List Own), ∃ (Φ666 : PW), Stable Φ666 ∧ Ctx W w664
  (R665 ++ R662) Φ666 ∧ ∀ (w667 : World) (R668 : List Own), Ctx W w667 (R665 ++ R668) Φ666 → Calls Tryd.prog F.journal_Open #[Value.pointer p22, Value.int IntKind.i64 3] w667 fun (e669 :
  Ending) (w670 : World) => ∃ (p671 : Option Addr), ∃ (n672 : Int), e669 = Ending.returned (Value.tuple #[Value.pointer p671, Value.int IntKind.i64 n672]) ∧ ∃ (R673 : List Own), ∃ (Φ674 :
  PW), Stable Φ674 ∧ Ctx W w670 (R673 ++ R668) Φ674 ∧ Br p671.isNone (∀ (w675 : World) (R676 : List Own), Ctx W w675 (R673 ++ R676) Φ674 → Calls Tryd.prog F.erratalaw06_disky #[Value.int
  IntKind.i64 n672] w675 fun (e677 : Ending) (w678 : World) => ∃ (c679 : Bool), e677 = Ending.returned (Value.bool c679) ∧ ∃ (R680 : List Own), ∃ (Φ681 : PW), Stable Φ681 ∧ Ctx W w678 (R680
  ++ R676) Φ681 ∧ Br (!c679) (∀ (w682 : World) (R683 : List Own), Ctx W w682 (R680 ++ R683) Φ681 → J (Value.bool false) w682) (Br (decide (n51 = (↑lN : Int))) (∀ (w684 : World) (R685 : List
  Own), Ctx W w684 (R680 ++ R685) Φ681 → J (Value.bool false) w684) (I64 (n51 + 1) ∧ ∃ (R686 : List Own), ∃ (Φ687 : PW), ∃ (k688 : Nat), Stable Φ687 ∧ (∀ (w689 : World) (R690 : List Own), Ctx
  W w689 (R680 ++ R690) Φ681 → Ctx W w689 (R686 ++ R690) Φ687) ∧ I37 p671 p44 k45 k46 p47 k48 k49 c50 (n51 + 1) R686 Φ687 k688 ∧ k688 < k54))) (exI fun (I691 : List Own → PW → Prop) => Br
  (decide (n672 ≠ 0)) (∀ (w692 : World) (R693 : List Own), Ctx W w692 (R673 ++ R693) Φ674 → J (Value.bool false) w692) (∀ (w694 : World) (R695 : List Own), Ctx W w694 (R673 ++ R695) Φ674 →
  Calls Tryd.prog F.journal_Journal_All #[Value.pointer p671] w694 fun (e696 : Ending) (w697 : World) => ∃ (p698 : Option Addr), ∃ (k699 : Nat), ∃ (k700 : Nat), e696 = Ending.returned
  (Value.slice p698 k699 k700) ∧ ∃ (R701 : List Own), ∃ (Φ702 : PW), Stable Φ702 ∧ Ctx W w697 (R701 ++ R695) Φ702 ∧ ∀ (w703 : World) (R704 : List Own), Ctx W w703 (R701 ++ R704) Φ702 → Calls
  Tryd.prog F.errataref01_SameTexts #[Value.slice p698 k699 k700, Value.slice p44 k45 k46] w703 fun (e705 : Ending) (w706 : World) => ∃ (c707 : Bool), e705 = Ending.returned (Value.bool c707)
  ∧ ∃ (R708 : List Own), ∃ (Φ709 : PW), Stable Φ709 ∧ Ctx W w706 (R708 ++ R704) Φ709 ∧ Br (!c707) (Br c50 (∀ (w710 : World) (R711 : List Own), Ctx W w710 (R708 ++ R711) Φ709 → Calls Tryd.prog
  F.journal_Journal_All #[Value.pointer p671] w710 fun (e712 : Ending) (w713 : World) => ∃ (p714 : Option Addr), ∃ (k715 : Nat), ∃ (k716 : Nat), e712 = Ending.returned (Value.slice p714 k715
  k716) ∧ ∃ (R717 : List Own), ∃ (Φ718 : PW), Stable Φ718 ∧ Ctx W w713 (R717 ++ R711) Φ718 ∧ ∀ (w719 : World) (R720 : List Own), Ctx W w719 (R717 ++ R720) Φ718 → Calls Tryd.prog
  F.errataref01_SameTexts #[Value.slice p714 k715 k716, Value.slice p47 k48 k49] w719 fun (e721 : Ending) (w722 : World) => ∃ (c723 : Bool), e721 = Ending.returned (Value.bool c723) ∧ ∃ (R724
  : List Own), ∃ (Φ725 : PW), Stable Φ725 ∧ Ctx W w722 (R724 ++ R720) Φ725 ∧ Br (!c723) (∀ (w726 : World) (R727 : List Own), Ctx W w726 (R724 ++ R727) Φ725 → J (Value.bool false) w726) (∃
  (R728 : List Own), ∃ (Φ729 : PW), Stable Φ729 ∧ (∀ (w730 : World) (R731 : List Own), Ctx W w730 (R724 ++ R731) Φ725 → Ctx W w730 (R728 ++ R731) Φ729) ∧ I691 R728 Φ729)) (∀ (w732 : World)
  (R733 : List Own), Ctx W w732 (R708 ++ R733) Φ709 → J (Value.bool false) w732)) (∃ (R734 : List Own), ∃ (Φ735 : PW), Stable Φ735 ∧ (∀ (w736 : World) (R737 : List Own), Ctx W w736 (R708 ++
  R737) Φ709 → Ctx W w736 (R734 ++ R737) Φ735) ∧ I691 R734 Φ735)) ∧ ∀ (R738 : List Own) (I739 : List Nat → World → Prop), Stable I739 → I691 R738 I739 → ∀ (w740 : World) (R741 : List Own),
  Ctx W w740 (R738 ++ R741) I739 → Calls Tryd.prog F.journal_Journal_All #[Value.pointer p671] w740 fun (e742 : Ending) (w743 : World) => ∃ (p744 : Option Addr), ∃ (k745 : Nat), ∃ (k746 :
  Nat), e742 = Ending.returned (Value.slice p744 k745 k746) ∧ ∃ (R747 : List Own), ∃ (Φ748 : PW), Stable Φ748 ∧ Ctx W w743 (R747 ++ R741) Φ748 ∧ I64 (n51 + 1) ∧ ∃ (R749 : List Own), ∃ (Φ750 :
  PW), ∃ (k751 : Nat), Stable Φ750 ∧ (∀ (w752 : World) (R753 : List Own), Ctx W w752 (R747 ++ R753) Φ748 → Ctx W w752 (R749 ++ R753) Φ750) ∧ I37 p671 p744 k745 k746 p47 k48 k49 false (n51 +
  1) R749 Φ750 k751 ∧ k751 < k54)) (I64 (n51 + 1) ∧ ∃ (R754 : List Own), ∃ (Φ755 : PW), ∃ (k756 : Nat), Stable Φ755 ∧ (∀ (w757 : World) (R758 : List Own), Ctx W w757 (R96 ++ R758) I97 → Ctx W
  w757 (R754 ++ R758) Φ755) ∧ I37 p43 p44 k45 k46 p47 k48 k49 c50 (n51 + 1) R754 Φ755 k756 ∧ k756 < k54)) (Br (decide (n88 = 5)) (exI fun (I759 : List Own → PW → Prop) => Br (decide (n88 =
  4)) (∀ (w760 : World) (R761 : List Own), Ctx W w760 (R96 ++ R761) I97 → Calls Tryd.prog F.disk_Disk_Crash #[Value.pointer p22, Value.slice p93 k94 k95] w760 fun (e762 : Ending) (w763 :
  World) => e762 = Ending.returned (Value.tuple #[]) ∧ ∃ (R764 : List Own), ∃ (Φ765 : PW), Stable Φ765 ∧ Ctx W w763 (R764 ++ R761) Φ765 ∧ ∃ (R766 : List Own), ∃ (Φ767 : PW), Stable Φ767 ∧ (∀
  (w768 : World) (R769 : List Own), Ctx W w768 (R764 ++ R769) Φ765 → Ctx W w768 (R766 ++ R769) Φ767) ∧ I759 R766 Φ767) (∃ (R770 : List Own), ∃ (Φ771 : PW), Stable Φ771 ∧ (∀ (w772 : World)
  (R773 : List Own), Ctx W w772 (R96 ++ R773) I97 → Ctx W w772 (R770 ++ R773) Φ771) ∧ I759 R770 Φ771) ∧ ∀ (R774 : List Own) (I775 : List Nat → World → Prop), Stable I775 → I759 R774 I775 → ∀
  (w776 : World) (R777 : List Own), Ctx W w776 (R774 ++ R777) I775 → Calls Tryd.prog F.disk_Disk_Start #[Value.pointer p22] w776 fun (e778 : Ending) (w779 : World) => e778 = Ending.returned
  (Value.tuple #[]) ∧ ∃ (R780 : List Own), ∃ (Φ781 : PW), Stable Φ781 ∧ Ctx W w779 (R780 ++ R777) Φ781 ∧ ∀ (w782 : World) (R783 : List Own), Ctx W w782 (R780 ++ R783) Φ781 → Calls Tryd.prog
  F.journal_Open #[Value.pointer p22, Value.int IntKind.i64 3] w782 fun (e784 : Ending) (w785 : World) => ∃ (p786 : Option Addr), ∃ (n787 : Int), e784 = Ending.returned (Value.tuple
  #[Value.pointer p786, Value.int IntKind.i64 n787]) ∧ ∃ (R788 : List Own), ∃ (Φ789 : PW), Stable Φ789 ∧ Ctx W w785 (R788 ++ R783) Φ789 ∧ Br p786.isNone (∀ (w790 : World) (R791 : List Own),
  Ctx W w790 (R788 ++ R791) Φ789 → Calls Tryd.prog F.erratalaw06_disky #[Value.int IntKind.i64 n787] w790 fun (e792 : Ending) (w793 : World) => ∃ (c794 : Bool), e792 = Ending.returned
  (Value.bool c794) ∧ ∃ (R795 : List Own), ∃ (Φ796 : PW), Stable Φ796 ∧ Ctx W w793 (R795 ++ R791) Φ796 ∧ Br (!c794) (∀ (w797 : World) (R798 : List Own), Ctx W w797 (R795 ++ R798) Φ796 → J
  (Value.bool false) w797) (Br (decide (n51 = (↑lN : Int))) (∀ (w799 : World) (R800 : List Own), Ctx W w799 (R795 ++ R800) Φ796 → J (Value.bool false) w799) (I64 (n51 + 1) ∧ ∃ (R801 : List
  Own), ∃ (Φ802 : PW), ∃ (k803 : Nat), Stable Φ802 ∧ (∀ (w804 : World) (R805 : List Own), Ctx W w804 (R795 ++ R805) Φ796 → Ctx W w804 (R801 ++ R805) Φ802) ∧ I37 p786 p44 k45 k46 p47 k48 k49
  c50 (n51 + 1) R801 Φ802 k803 ∧ k803 < k54))) (exI fun (I806 : List Own → PW → Prop) => Br (decide (n787 ≠ 0)) (∀ (w807 : World) (R808 : List Own), Ctx W w807 (R788 ++ R808) Φ789 → J
  (Value.bool false) w807) (∀ (w809 : World) (R810 : List Own), Ctx W w809 (R788 ++ R810) Φ789 → Calls Tryd.prog F.journal_Journal_All #[Value.pointer p786] w809 fun (e811 : Ending) (w812 :
  World) => ∃ (p813 : Option Addr), ∃ (k814 : Nat), ∃ (k815 : Nat), e811 = Ending.returned (Value.slice p813 k814 k815) ∧ ∃ (R816 : List Own), ∃ (Φ817 : PW), Stable Φ817 ∧ Ctx W w812 (R816 ++
  R810) Φ817 ∧ ∀ (w818 : World) (R819 : List Own), Ctx W w818 (R816 ++ R819) Φ817 → Calls Tryd.prog F.errataref01_SameTexts #[Value.slice p813 k814 k815, Value.slice p44 k45 k46] w818 fun
  (e820 : Ending) (w821 : World) => ∃ (c822 : Bool), e820 = Ending.returned (Value.bool c822) ∧ ∃ (R823 : List Own), ∃ (Φ824 : PW), Stable Φ824 ∧ Ctx W w821 (R823 ++ R819) Φ824 ∧ Br (!c822)
  (Br c50 (∀ (w825 : World) (R826 : List Own), Ctx W w825 (R823 ++ R826) Φ824 → Calls Tryd.prog F.journal_Journal_All #[Value.pointer p786] w825 fun (e827 : Ending) (w828 : World) => ∃ (p829
  : Option Addr), ∃ (k830 : Nat), ∃ (k831 : Nat), e827 = Ending.returned (Value.slice p829 k830 k831) ∧ ∃ (R832 : List Own), ∃ (Φ833 : PW), Stable Φ833 ∧ Ctx W w828 (R832 ++ R826) Φ833 ∧ ∀
  (w834 : World) (R835 : List Own), Ctx W w834 (R832 ++ R835) Φ833 → Calls Tryd.prog F.errataref01_SameTexts #[Value.slice p829 k830 k831, Value.slice p47 k48 k49] w834 fun (e836 : Ending)
  (w837 : World) => ∃ (c838 : Bool), e836 = Ending.returned (Value.bool c838) ∧ ∃ (R839 : List Own), ∃ (Φ840 : PW), Stable Φ840 ∧ Ctx W w837 (R839 ++ R835) Φ840 ∧ Br (!c838) (∀ (w841 : World)
  (R842 : List Own), Ctx W w841 (R839 ++ R842) Φ840 → J (Value.bool false) w841) (∃ (R843 : List Own), ∃ (Φ844 : PW), Stable Φ844 ∧ (∀ (w845 : World) (R846 : List Own), Ctx W w845 (R839 ++
  R846) Φ840 → Ctx W w845 (R843 ++ R846) Φ844) ∧ I806 R843 Φ844)) (∀ (w847 : World) (R848 : List Own), Ctx W w847 (R823 ++ R848) Φ824 → J (Value.bool false) w847)) (∃ (R849 : List Own), ∃
  (Φ850 : PW), Stable Φ850 ∧ (∀ (w851 : World) (R852 : List Own), Ctx W w851 (R823 ++ R852) Φ824 → Ctx W w851 (R849 ++ R852) Φ850) ∧ I806 R849 Φ850)) ∧ ∀ (R853 : List Own) (I854 : List Nat →
  World → Prop), Stable I854 → I806 R853 I854 → ∀ (w855 : World) (R856 : List Own), Ctx W w855 (R853 ++ R856) I854 → Calls Tryd.prog F.journal_Journal_All #[Value.pointer p786] w855 fun (e857
  : Ending) (w858 : World) => ∃ (p859 : Option Addr), ∃ (k860 : Nat), ∃ (k861 : Nat), e857 = Ending.returned (Value.slice p859 k860 k861) ∧ ∃ (R862 : List Own), ∃ (Φ863 : PW), Stable Φ863 ∧
  Ctx W w858 (R862 ++ R856) Φ863 ∧ I64 (n51 + 1) ∧ ∃ (R864 : List Own), ∃ (Φ865 : PW), ∃ (k866 : Nat), Stable Φ865 ∧ (∀ (w867 : World) (R868 : List Own), Ctx W w867 (R862 ++ R868) Φ863 → Ctx
  W w867 (R864 ++ R868) Φ865) ∧ I37 p786 p859 k860 k861 p47 k48 k49 false (n51 + 1) R864 Φ865 k866 ∧ k866 < k54)) (I64 (n51 + 1) ∧ ∃ (R869 : List Own), ∃ (Φ870 : PW), ∃ (k871 : Nat), Stable
  Φ870 ∧ (∀ (w872 : World) (R873 : List Own), Ctx W w872 (R96 ++ R873) I97 → Ctx W w872 (R869 ++ R873) Φ870) ∧ I37 p43 p44 k45 k46 p47 k48 k49 c50 (n51 + 1) R869 Φ870 k871 ∧ k871 < k54)))))))
  (∀ (w874 : World) (R875 : List Own), Ctx W w874 (R52 ++ R875) I53 → J (Value.bool c4) w874)))))

theorem Merratalaw06_JournalLasts_run (lP : Option Addr) (lN lC : Nat) (keepP : Option Addr) (keepN keepC : Nat) {W w : World} {R : List Own} {Φ : PW} [Stable Φ] {J : Value → World → Prop} (c : Ctx W w R Φ) (h : Merratalaw06_JournalLasts lP lN lC keepP keepN keepC W R Φ J) : Calls Tryd.prog F.erratalaw06_JournalLasts #[.slice lP lN lC, .slice keepP keepN keepC] w fun e w' => ∃ v, e = .returned v ∧ J v w' :=
  vcFS_sound (H := { keep := some [0, 1, 4, 5, 6, 7, 9, 10, 11, 12, 13, 14, 15, 16, 25, 29, 36, 40, 48, 58, 59, 63, 72, 92, 95, 108, 109, 115, 123, 128, 141, 150, 169], track := [13], stages := [(25, [.held [(1, true), (3, true), (4, true), (0, false), (2, false)], .stage [] (some 5), .stage [6] none])], split := [2, 36, 50, 52], loops := [(14, [(7, .one (.ptr)), (9, .one (.slice)), (10, .one (.slice)), (11, .one (.bool)), (12, .one (.int .i64))], [])], cuts := [(21, [], [(13, .agg [.int .i64, .slice, .int .i64, .slice])]), (31, [(14, .one (.slice)), (15, .one (.int .i64))], []), (33, [(9, .one (.slice))], []), (36, [(10, .one (.slice)), (11, .one (.bool))], []), (46, [], []), (54, [], [])] }) (by rw [show vcFS Tryd.prog W { keep := some [0, 1, 4, 5, 6, 7, 9, 10, 11, 12, 13, 14, 15, 16, 25, 29, 36, 40, 48, 58, 59, 63, 72, 92, 95, 108, 109, 115, 123, 128, 141, 150, 169], track := [13], stages := [(25, [.held [(1, true), (3, true), (4, true), (0, false), (2, false)], .stage [] (some 5), .stage [6] none])], split := [2, 36, 50, 52], loops := [(14, [(7, .one (.ptr)), (9, .one (.slice)), (10, .one (.slice)), (11, .one (.bool)), (12, .one (.int .i64))], [])], cuts := [(21, [], [(13, .agg [.int .i64, .slice, .int .i64, .slice])]), (31, [(14, .one (.slice)), (15, .one (.int .i64))], []), (33, [(9, .one (.slice))], []), (36, [(10, .one (.slice)), (11, .one (.bool))], []), (46, [], []), (54, [], [])] } F.erratalaw06_JournalLasts #[.slice lP lN lC, .slice keepP keepN keepC] R Φ J = Merratalaw06_JournalLasts lP lN lC keepP keepN keepC W R Φ J by kernel_rfl]; exact h) c

end Go.Proofs.YtfccagphnfceiaaDoor
end

/-
  The law of appending and cutting: walked.
-/
section
set_option linter.unusedVariables false
set_option linter.unusedSimpArgs false
namespace Go.Proofs.YtfccagphnfceiaaDoor
open Go.Vc

section
variable {W w : World} {S R G : List Own} {Φ : PW}
/-- append([]string{}, l...) -/
theorem clone_strs [Stable Φ] {g : Nat} {q : Option Addr} {c2 : Nat} {l : List ByteArray} (hsl : ∀ M w, Φ M w → Sl M w q l) (hl : l.length < 100000000) (cx : Ctx W w (.blk g [] 9 :: S) Φ) :
    ∃ p' cap' w', Sem.run Tryd.prog (builtin Builtin.append #[36, 36] 36 #[false, false] #[.slice (some ⟨g, 0, none⟩) 0 0, .slice q l.length c2]) w = .ok (.value (.slice p' l.length cap')) w' ∧ Ctx W w' (.buf p' l.length cap' (strC l) 9 1 :: S) Φ := by
  obtain ⟨p', cap', w', cs, hr, c'⟩ := Ctx.cloned (P := Tryd.prog) (ts := 36) (ty := 36) (kb := #[false, false]) (bytes := 16) (c2 := c2) cx (by kernel_rfl) str_oneJ hsl hl (by omega)
  have e := strs_elems c'.phi.2
  subst e
  exact ⟨p', cap', w', hr, c'.weak fun _ _ h => h.1⟩
/-- append(want, l...), whether or not l has elements -/
theorem grow_strs [Stable Φ] {p : Option Addr} {cap : Nat} {want l : List ByteArray} {q : Option Addr} {c2 : Nat} (hsl : ∀ M w, Φ M w → Sl M w q l) (hl : want.length + l.length < 100000000) (cx : Ctx W w (.buf p want.length cap (strC want) 9 1 :: S) Φ) :
    ∃ p' cap' w', Sem.run Tryd.prog (builtin Builtin.append #[36, 36] 36 #[false, false] #[.slice p want.length cap, .slice q l.length c2]) w = .ok (.value (.slice p' (want ++ l).length cap')) w' ∧ Ctx W w' (.buf p' (want ++ l).length cap' (strC (want ++ l)) 9 1 :: S) Φ := by
  by_cases h0 : l = []
  · subst h0
    obtain ⟨i, z, e1, e2, e3, e4, e5, e6⟩ := appB_out (P := Tryd.prog) (ts := 36) (t := 9) (size := 1) (bytes := 16) (by kernel_rfl)
    refine ⟨p, cap, w, ?_, by rw [List.append_nil]; exact cx⟩
    rw [List.append_nil]
    exact run_app (cx.append0 0 rfl e1 e2 q c2)
  · obtain ⟨p', cap', w', news, hr, _, c'⟩ := cx.appSl (P := Tryd.prog) (ts := 36) (ty := 36) (kb := #[false, false]) (bytes := 16) (c2 := c2) (by kernel_rfl) str_oneJ hsl (List.length_pos_iff.2 h0) hl (by omega)
    have e := strs_elems c'.phi.2
    subst e
    rw [← List.length_append] at hr c'
    refine ⟨p', cap', w', hr, ?_⟩
    rw [show strC (want ++ l) = strC want ++ strC l from List.map_append]
    exact c'.weak fun _ _ h => h.1
end
end Go.Proofs.YtfccagphnfceiaaDoor
end

/-
  The law that what was appended stays: walked.
-/
section
set_option linter.unusedVariables false
set_option linter.unusedSimpArgs false
namespace Go.Proofs.YtfccagphnfceiaaDoor
open Go.Vc

/-- a journal that may be there -/
abbrev oO (q : DkP) (jo : Option (JoP × JouS)) : List Own := match jo with
  | none => []
  | some (x, j) => JoO x q j
abbrev oP (jo : Option (JoP × JouS)) : Option Addr := match jo with
  | none => none
  | some (x, _) => some ⟨x.jb, 0, none⟩
/-- what holds of it on a disk where no crash is scheduled -/
structure StayI (q : DkP) (d : DsS) (jo : Option (JoP × JouS)) : Prop where
  dq : DkQ q d
  arm : d.armed = 0
  keep : d.keep = []
  fut : JFut d 0 fun _ => True
  jou : ∀ x j, jo = some (x, j) → SI d j ∧ j.base = 0 ∧ SB x.p x.cap j.list x.o
section
variable {W w : World} {S R G : List Own} {Φ : PW}
theorem o_in [Stable Φ] {A X S G : List Own} (cx : Ctx W w ((A ++ (X ++ S)) ++ G) Φ) : Ctx W w (X ++ (A ++ (S ++ G))) Φ := jd_in cx
theorem o_drop [Stable Φ] {A X S G : List Own} (cx : Ctx W w (X ++ (A ++ (S ++ G))) Φ) : Ctx W w ((X ++ S) ++ G) Φ := by
  rw [List.append_assoc]
  exact cx.sub ((List.Sublist.refl _).append (List.sublist_append_right _ _))
theorem b_end [Stable Φ] {A X S G : List Own} (cx : Ctx W w ((A ++ (X ++ S)) ++ G) Φ) : Ctx W w S Φ := Ctx.right (S := X) (Ctx.right (S := A) (Ctx.left cx))
theorem start_files (d : DsS) : (startS d).files = d.files := rfl

theorem SB.freeze [Stable Φ] {p : Option Addr} {cap : Nat} {l : List ByteArray} {o : Own} (h : SB p cap l o) (hs : ∀ x ∈ l, x.size ≤ maxLen) (cx : Ctx W w (o :: S) Φ) : Ctx W w S (fun M w => Φ M w ∧ Sl M w p l) := by
  cases h with
  | buf =>
    obtain ⟨c7, s7, _⟩ := cx.freeze (elems_strJ hs)
    exact c7.add s7
  | cut g l cs => exact cx.drop1.add (park_str cx.park.phi.2 hs)
theorem crash_lost (d : DsS) (l : List Int) : (crashS d l).lost = d.lost := by
  unfold crashS; split <;> rfl
end
end Go.Proofs.YtfccagphnfceiaaDoor
end

