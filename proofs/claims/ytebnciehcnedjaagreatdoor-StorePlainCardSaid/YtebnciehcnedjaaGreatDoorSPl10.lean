/-
  For every input erratalaw29.StorePlain returns true, does not panic, comes to an end, and leaves what came in as it was; the variables that its row lists are as the program's text lays them.
  Conditions: none beyond the given statement's own (StorePlainCardSaid).
-/
import Derived.Test.YtebnciehcnedjaaGreatDoorSPl9
import Derived.Test.YtebnciehcnedjaaGreatDoorSPl8
import Derived.Test.YtebnciehcnedjaaGreatDoorCards
import Derived.MakeChecks
import Derived.Stop.LaidErr
import Derived.Lib.LaidTab
import Derived.Test.YtebnciehcnedjaaGreatDoorTie
import Derived.SevenTiedAt
import Derived.LaidMore
import Derived.ChangeMaps5
import Derived.Test.YtebnciehcnedjaaGreatDoorRows

/-
  StorePlain, walked.
-/
section
set_option linter.unusedVariables false
set_option linter.unusedSimpArgs false
namespace Go.Proofs.YtebnciehcnedjaaGreatDoor
open Go.Vc


theorem strE {M : List Nat} {w : World} {l : List ByteArray} (h : ∀ x ∈ l, x.size ≤ maxLen) : Elems M w (l.map Value.string) l := by
  have hs : (Gv.ty ByteArray).size = 1 := rfl
  refine ⟨by rw [hs, List.length_map, Nat.mul_one], fun j hj => ?_⟩
  rw [hs, Nat.mul_one, ← List.map_drop, List.drop_eq_getElem_cons hj]
  exact ⟨rfl, h _ (List.getElem_mem hj)⟩
abbrev keyO (p : Option Addr) (c : Nat) (h : Run) : Own := .buf p h.length c ((keysH h).map Value.string) 9 1
abbrev valO (p : Option Addr) (c : Nat) (h : Run) : Own := .buf p h.length c ((valsH h).map Value.string) 9 1
theorem st_front (q : TO) (s : StD) (o : Own) (T : List Own) : (stO q s (o :: T)).Perm (o :: stO q s T) := by
  rw [stO_app q s (o :: T), stO_app q s T]
  exact List.perm_middle
theorem pre_is (pre key : ByteArray) : (decide ((pre.size : Int) ≤ (key.size : Int)) && decide (key.extract 0 (min (pre.size : Int) (key.size : Int)).toNat = pre)) = preP pre key := by
  unfold preP
  by_cases h : (pre.size : Int) ≤ (key.size : Int)
  · rw [show (min (pre.size : Int) (key.size : Int)).toNat = pre.size by omega]
  · rw [decide_eq_false h]; rfl

set_option maxHeartbeats 8000000 in
theorem Plain_in {Φ : PW} [Stable Φ] {p : Option Addr} {cap : Nat} {l : List OpD} {pre key : ByteArray} (hN : ∀ M w, Φ M w → NumI M w) (hΦ : ∀ M w, Φ M w → Sl M w p l) (hl : l.length ≤ maxLen) (hpre : pre.size ≤ maxLen) :
    GivesIn Φ Tryz.prog F.erratalaw29_StorePlain #[.slice p l.length cap, .string pre, .string key] (.bool true) := by
  refine .there (fun M w h => (hΦ M w h).there) fun hth => ?_
  refine gives_in (Merratalaw29_StorePlain_run p l.length cap pre key) fun W R => fun w G cx => ?_
  refine (small29_g.in).toB cx fun w G cx => ?_
  refine New_use cx fun q0 w hq0 cx => ⟨_, rfl, stO q0 stNew R, _, instStableSt Φ q0 stNew, cx.re (stO_re _ _ _ _).symm, fun w G cx => ?_⟩
  have hst0 : Stable (fun M w => Φ M w ∧ stF q0 stNew M w) := instStableSt Φ q0 stNew
  refine (few_in (Φ := fun M w => Φ M w ∧ stF q0 stNew M w) (fun M w h => hΦ M w h.1) hl).toB cx (Br.intro (fun _ => fun w G cx => fun w G cx => ⟨rfl, st_drop cx⟩) (fun hf => Br.intro (fun h => by cases h) (fun _ => ?_)))
  have hf : fewO l 200 = true := by cases h : fewO l 200 with
    | true => rfl
    | false => rw [h] at hf; cases hf
  have hl3 := fewO_len hf
  have hfit := fewO_fit hf
  clear cx
  refine exI_mk (fun pS pK kN kC pV vN vC sq nI R' Φ' k => ∃ (i : Nat) (q : TO) (s : StD) (h : Run), nI = i ∧ i ≤ l.length ∧ pS = some ⟨q.sb, 0, none⟩ ∧ StQ q s ∧ StB 0 s i ∧ Last s h ∧ h.length ≤ i ∧ Fit1 h ∧ kN = h.length ∧ vN = h.length ∧ sq = h.length ∧ R' = stO q s (keyO pK kC h :: valO pV vC h :: R) ∧ Φ' = (fun M w => Φ M w ∧ stF q s M w) ∧ k = l.length - i)
    ⟨⟨stO q0 stNew (keyO none 0 [] :: valO none 0 [] :: R), _, _, hst0, fun w G cx => ?_, 0, q0, stNew, [], rfl, Nat.zero_le _, rfl, hq0, new_b, new_last, Nat.le_refl _, fun x hx => (by cases hx), rfl, rfl, rfl, rfl, rfl, rfl⟩, ?_⟩
  · have c1 := (cx.nobuf 9 1).nobuf 9 1
    refine c1.perm ?_
    have e1 := (st_front q0 stNew (keyO none 0 []) (valO none 0 [] :: R)).trans (List.Perm.cons _ (st_front q0 stNew (valO none 0 []) R))
    exact (List.Perm.append_right G e1).symm
  rintro pS pK kN kC pV vN vC sq nI R1 Φ1 k _ ⟨i, q, s, h, rfl, hi, rfl, hq, hB, hL, hhi, hfh, rfl, rfl, rfl, rfl, rfl, rfl⟩
  refine Br.intro (fun hlt => ?_) (fun hge => ?_)
  · -- an operation
    have hlt : i < l.length := by have := of_decide_eq_true hlt; omega
    obtain ⟨g, o, rfl⟩ := hth (by omega)
    have hfx := hfit _ (List.getElem_mem hlt)
    refine ⟨⟨by omega, by omega⟩, ptrK_intro g o rfl fun w G cx => ⟨l[i].dop, l[i].n, l[i].key, l[i].val, by rw [Int.toNat_natCast]; exact sl_op (hΦ _ _ cx.phi.1) hlt, fun w G cx => ?_⟩⟩
    refine do_use (S := keyO pK kC h :: valO pV vC h :: R ++ G) hN hq hB (by omega) hfx.1 hfx.2 (cx.re (stO_re q s _ G)) fun q' w hq' cx => ?_
    have hB' := step_b (x := l[i]) ⟨by decide, by decide⟩ (by omega) hB hfx.1 hfx.2
    have hL' := step_last hB.i hL l[i]
    obtain ⟨r, hr⟩ : ∃ r, stepS s l[i] = r := ⟨_, rfl⟩
    have hput : isPut s l[i] = (decide (andZ l[i].dop 7 < 5) || (decide (andZ l[i].dop 7 = 6) && decide (r.2 = 0))) := by unfold isPut; rw [hr]
    rw [hr] at hq' hB' hL' cx ⊢
    obtain ⟨s', er⟩ := r
    simp only at hq' hB' hL' cx hput ⊢
    have hst1 : Stable (fun M w => Φ M w ∧ stF q' s' M w) := instStableSt Φ q' s'
    refine ⟨_, _, rfl, stO q' s' (keyO pK kC h :: valO pV vC h :: R), _, hst1, cx.re (stO_re q' s' _ G).symm, Br.intro (fun h => by cases h) (fun _ => ⟨⟨by omega, by omega⟩, ptrK_intro g o rfl fun w G cx => ⟨l[i].dop, by rw [Int.toNat_natCast]; exact sl_op (hΦ _ _ cx.phi.1) hlt 0 (by show 0 < 4; decide), andZ l[i].dop 7, fun w => and_run _ _ _, ?_⟩⟩)⟩
    clear cx
    refine exI_mk (fun pK kN kC pV vN vC sq R' Φ' => ∃ h' : Run, h' = stepH s h l[i] ∧ kN = h'.length ∧ vN = h'.length ∧ sq = h'.length ∧ R' = stO q' s' (keyO pK kC h' :: valO pV vC h' :: R) ∧ Φ' = (fun M w => Φ M w ∧ stF q' s' M w)) ⟨fun w G cx => ?_, ?_⟩
    · rw [← hput]
      refine Br.intro (fun hp => ⟨by unfold I64; omega, ⟨by omega, by omega⟩, ptrK_intro g o rfl fun w G cx => ⟨l[i].key, by rw [Int.toNat_natCast]; exact sl_op (hΦ _ _ cx.phi.1) hlt 2 (by show 2 < 4; decide), fun b w G cx => ?_⟩⟩) (fun hp => ⟨_, _, hst1, fun w G cx => cx, h, by unfold stepH; rw [hp]; rfl, rfl, rfl, rfl, rfl, rfl⟩)
      have c1 : Ctx W w (.blk b [.string l[i].key] 9 :: keyO pK kC h :: (stO q' s' (valO pV vC h :: R) ++ G)) _ := cx.perm (List.Perm.cons _ (List.Perm.append_right G (st_front q' s' (keyO pK kC h) _)))
      obtain ⟨pK', kC', w', hrun, _, c2⟩ := c1.app1 (ts := 66) (ty := 66) (kb := #[false, false]) (bytes := 16) (P := Tryz.prog) (by kernel_rfl) (by omega) rfl rfl (by omega) (by omega)
      have c3 : Ctx W w' ((Own.buf pK' (h.length + 1) kC' ((keysH h).map Value.string ++ [Value.string l[i].key]) 9 1 :: stO q' s' (valO pV vC h :: R)) ++ G) (fun M w => Φ M w ∧ stF q' s' M w) := c2
      refine ⟨pK', _, kC', w', hrun, _, _, hst1, c3, ⟨by omega, by omega⟩, ptrK_intro g o rfl fun w G cx => ⟨l[i].val, by rw [Int.toNat_natCast]; exact sl_op (hΦ _ _ cx.phi.1) hlt 3 (by show 3 < 4; decide), fun b w G cx => ?_⟩⟩
      clear c1 c2 c3
      have c1 : Ctx W w (.blk b [.string l[i].val] 9 :: valO pV vC h :: (.buf pK' (h.length + 1) kC' ((keysH h).map Value.string ++ [.string l[i].key]) 9 1 :: stO q' s' R ++ G)) _ := cx.perm (List.Perm.cons _ ((List.Perm.cons _ (List.Perm.append_right G (st_front q' s' (valO pV vC h) _))).trans (List.Perm.swap _ _ _)))
      obtain ⟨pV', vC', w', hrun, _, c2⟩ := c1.app1 (ts := 66) (ty := 66) (kb := #[false, false]) (bytes := 16) (P := Tryz.prog) (by kernel_rfl) (by omega) rfl rfl (by omega) (by omega)
      have e1 : (h ++ [(⟨l[i].key, l[i].val⟩ : PairD)]).length = h.length + 1 := by rw [List.length_append]; rfl
      have e2 : (keysH (h ++ [(⟨l[i].key, l[i].val⟩ : PairD)])).map Value.string = (keysH h).map Value.string ++ [.string l[i].key] := by
        show ((h ++ [(⟨l[i].key, l[i].val⟩ : PairD)]).map PairD.key).map Value.string = _
        rw [List.map_append, List.map_append]; rfl
      have e3 : (valsH (h ++ [(⟨l[i].key, l[i].val⟩ : PairD)])).map Value.string = (valsH h).map Value.string ++ [.string l[i].val] := by
        show ((h ++ [(⟨l[i].key, l[i].val⟩ : PairD)]).map PairD.val).map Value.string = _
        rw [List.map_append, List.map_append]; rfl
      have e4 : stepH s h l[i] = h ++ [(⟨l[i].key, l[i].val⟩ : PairD)] := by unfold stepH; rw [hp]; rfl
      have c4 : Ctx W w' ((Own.buf pV' (h.length + 1) vC' ((valsH h).map Value.string ++ [Value.string l[i].val]) 9 1 :: Own.buf pK' (h.length + 1) kC' ((keysH h).map Value.string ++ [Value.string l[i].key]) 9 1 :: stO q' s' R) ++ G) (fun M w => Φ M w ∧ stF q' s' M w) := c2
      refine ⟨pV', _, vC', w', hrun, _, _, hst1, c4, stO q' s' (keyO pK' kC' (h ++ [(⟨l[i].key, l[i].val⟩ : PairD)]) :: valO pV' vC' (h ++ [(⟨l[i].key, l[i].val⟩ : PairD)]) :: R), _, hst1, fun w G cx => ?_, h ++ [(⟨l[i].key, l[i].val⟩ : PairD)], e4.symm, e1.symm, e1.symm, by rw [e1]; omega, rfl, rfl⟩
      have c3 := cx.swap
      rw [← e2, ← e3, ← e1] at c3
      refine Ctx.perm c3 ?_
      have p1 := (st_front q' s' (keyO pK' kC' (h ++ [(⟨l[i].key, l[i].val⟩ : PairD)])) (valO pV' vC' (h ++ [(⟨l[i].key, l[i].val⟩ : PairD)]) :: R)).trans (List.Perm.cons _ (st_front q' s' (valO pV' vC' (h ++ [(⟨l[i].key, l[i].val⟩ : PairD)])) R))
      exact (List.Perm.append_right G p1).symm
    · rintro pK kN kC pV vN vC sq R1 Φ1 _ ⟨h', rfl, rfl, rfl, rfl, rfl, rfl⟩
      refine fun w G cx => ?_
      have hfh' : Fit1 (stepH s h l[i]) := by
        unfold stepH
        split
        · intro x hx
          rcases List.mem_append.1 hx with hx | hx
          · exact hfh x hx
          · rw [List.mem_singleton.1 hx]; exact hfx
        · exact hfh
      have hhl : (stepH s h l[i]).length ≤ i + 1 := by
        unfold stepH
        split
        · rw [List.length_append, List.length_singleton]; omega
        · omega
      refine look (S := keyO pK kC (stepH s h l[i]) :: valO pV vC (stepH s h l[i]) :: R ++ G) hq' (v := .int .i64 s'.seq) (cx.re (stO_re q' s' _ G)) (fun Ψ h1 h2 h3 => Seq_in (hΦ := h2)) fun w cx => ⟨_, rfl, stO q' s' (keyO pK kC (stepH s h l[i]) :: valO pV vC (stepH s h l[i]) :: R), _, hst1, cx.re (stO_re q' s' _ G).symm, Br.intro (fun h => absurd hL'.seq (of_decide_eq_true h)) (fun _ => ⟨by unfold I64; omega, _, _, l.length - (i + 1), hst1, fun w G cx => cx, ⟨i + 1, q', s', stepH s h l[i], by omega, by omega, rfl, hq', hB', hL', hhl, hfh', rfl, rfl, rfl, rfl, rfl, rfl⟩, by omega⟩)⟩
  -- all operations were done
  have hge : i = l.length := by have := of_decide_eq_false hge; omega
  subst hge
  have hlv := hB.levels
  have hver := hB.c.ver
  refine fun w G cx => ?_
  have cxS := cx.re (stO_re q s (keyO pK kC h :: valO pV vC h :: R) G)
  obtain ⟨Ψ, stΨ, toΦ, toR, hC, _, hlay⟩ := lay hq cxS
  have cxa : Ctx W w (keyO pK kC h :: (valO pV vC h :: (R ++ G))) Ψ := hlay _ _ cxS
  clear cx cxS hlay hst0
  obtain ⟨c1, hs1, _, g1, g2⟩ := Ctx.freeze (α := ByteArray) (l := keysH h) cxa (strE fun x hx => by
    obtain ⟨y, hy, rfl⟩ := List.mem_map.1 hx
    have := hfh y hy
    unfold maxLen; omega)
  have c2 := c1.add (Ψ := fun M w => Sl M w pK (keysH h)) hs1
  have stK : Stable (fun M w => Ψ M w ∧ Sl M w pK (keysH h)) := instStableAnd Ψ (fun M w => Sl M w pK (keysH h))
  obtain ⟨c3, hs2, _, g3, g4⟩ := Ctx.freeze (α := ByteArray) (l := valsH h) c2 (strE fun x hx => by
    obtain ⟨y, hy, rfl⟩ := List.mem_map.1 hx
    have := hfh y hy
    unfold maxLen; omega)
  have cx := c3.add (Ψ := fun M w => Sl M w pV (valsH h)) hs2
  clear cxa c1 c2 c3 hs1 hs2
  obtain ⟨Ψ2, hΨ2⟩ : ∃ Ψ2 : PW, Ψ2 = (fun M w => (Ψ M w ∧ Sl M w pK (keysH h)) ∧ Sl M w pV (valsH h)) := ⟨_, rfl⟩
  have st2 : Stable Ψ2 := by rw [hΨ2]; exact instStableAnd (fun M w => Ψ M w ∧ Sl M w pK (keysH h)) (fun M w => Sl M w pV (valsH h))
  have a1 : ∀ M w, Ψ2 M w → Ψ M w := fun M w h => by rw [hΨ2] at h; exact h.1.1
  have a2 : ∀ M w, Ψ2 M w → Sl M w pK (keysH h) := fun M w h => by rw [hΨ2] at h; exact h.1.2
  have a3 : ∀ M w, Ψ2 M w → Sl M w pV (valsH h) := fun M w h => by rw [hΨ2] at h; exact h.2
  rw [← hΨ2] at cx
  have hthK := (a2 _ _ cx.phi).there
  rw [List.length_map] at hthK
  have hhl : h.length ≤ 1000000 := by omega
  have hgk : ∀ k, valK h.reverse k = getS s k := fun k => (hL.get k).symm
  refine (latest_in (Φ := Ψ2) a2 a3 hhl key).toS cx fun w G cx => ?_
  refine (Scan_sl (Φ := Ψ2) (pre := tE) (hΦ := ⟨fun M w h => toR _ _ (a1 _ _ h)⟩) hC (by omega) (by omega) (by omega) hB.szs (by show 0 ≤ _; omega)).tot cx fun p1 c1 _ _ ht1 st3 => fun w G cx => ?_
  refine (Scan_sl (Φ := fun M w => Ψ2 M w ∧ Sl M w p1 (scanS s tE)) (pre := pre) (hΦ := ⟨fun M w h => toR _ _ (a1 _ _ h.1)⟩) hC (by omega) (by omega) (by omega) hB.szs hpre).tot cx fun p2 c2 _ _ ht2 st4 => ?_
  clear cx
  rw [scan_all] at ht1 st3 st4 ⊢
  obtain ⟨all, hall⟩ : ∃ all, allS s = all := ⟨_, rfl⟩
  obtain ⟨some', hsome⟩ : ∃ some', scanS s pre = some' := ⟨_, rfl⟩
  have hsf : some' = all.filter fun x => preP pre x.key := by rw [← hsome, ← hall]; rfl
  have hasc : AscK all := by rw [← hall]; exact all_asc s
  have hne : NeV all := by rw [← hall]; exact all_ne s
  have hget : ∀ x ∈ all, getS s x.key = x.val := by rw [← hall]; exact all_get s
  have hfa := firsts_all hL
  rw [hall] at hfa
  have hal : all.length ≤ 1000 := by
    have := (all_sub (s := s)).1
    rw [hall] at this
    omega
  rw [hall, hsome] at st4 ⊢
  rw [hall] at ht1 st3
  rw [hsome] at ht2
  obtain ⟨Ψ3, hΨ3⟩ : ∃ Ψ3 : PW, Ψ3 = (fun M w => (Ψ2 M w ∧ Sl M w p1 all) ∧ Sl M w p2 some') := ⟨_, rfl⟩
  have b1 : ∀ M w, Ψ3 M w → Ψ2 M w := fun M w h => by rw [hΨ3] at h; exact h.1.1
  have b2 : ∀ M w, Ψ3 M w → Sl M w p1 all := fun M w h => by rw [hΨ3] at h; exact h.1.2
  have b3 : ∀ M w, Ψ3 M w → Sl M w p2 some' := fun M w h => by rw [hΨ3] at h; exact h.2
  have toS : ∀ M w, Ψ3 M w → StR q s M w := fun M w h => toR _ _ (a1 _ _ (b1 _ _ h))
  have toP : ∀ M w, Ψ3 M w → Φ M w := fun M w h => toΦ _ _ (a1 _ _ (b1 _ _ h))
  rw [← hΨ3] at st4 ⊢
  have hlat : ∀ k, GivesIn Ψ3 Tryz.prog F.erratalaw29_latest #[.slice pK h.length kC, .slice pV h.length vC, .string k] (.string (getS s k)) := fun k => by
    rw [← hgk]
    exact latest_in (fun M w h => a2 _ _ (b1 _ _ h)) (fun M w h => a3 _ _ (b1 _ _ h)) hhl k
  have hG : ∀ k, GivesIn Ψ3 Tryz.prog F.store_Store_Get #[.pointer (some ⟨q.sb, 0, none⟩), .string k] (.string (getS s k)) := fun k => Get_in (hΦ := ⟨toS⟩) hC hB.i (by omega) (by omega) (by omega) k
  have row : ∀ (w : World) (G : List Own) (b o : Nat), Ctx W w (R ++ G) Ψ3 → p1 = some ⟨b, o, none⟩ → ∀ j (hj : j < all.length), RowAt w b (o + j * 2) [.string all[j].key, .string all[j].val] := fun w G b o cx e j hj => by
    have h1 := b2 _ _ cx.phi
    rw [e] at h1
    exact sl_pair h1 hj
  have keyAt : ∀ (w : World) (G : List Own) (b o : Nat), Ctx W w (R ++ G) Ψ3 → pK = some ⟨b, o, none⟩ → ∀ j (hj : j < h.length), w.cell? ⟨b, o + j, none⟩ = some (.string h[j].key) := fun w G b o cx e j hj => by
    have h1 := a2 _ _ (b1 _ _ cx.phi)
    rw [e] at h1
    have := sl_s h1 (j := j) (by rw [List.length_map]; exact hj)
    rwa [List.getElem_map] at this
  refine exI_mk (fun n nI R' Φ' k => ∃ i : Nat, nI = i ∧ i ≤ all.length ∧ n = (((all.take i).filter fun x => preP pre x.key).length : Int) ∧ R' = R ∧ Φ' = Ψ3 ∧ k = all.length - i)
    ⟨⟨R, Ψ3, _, st4, fun w G cx => cx, 0, rfl, Nat.zero_le _, rfl, rfl, rfl, rfl⟩, ?_⟩
  rintro n nI R2 Φ2 k _ ⟨i, rfl, hi2, rfl, rfl, rfl, rfl⟩
  refine Br.intro (fun hlt => ?_) (fun hge => ?_)
  · -- a cell
    have hlt : i < all.length := by have := of_decide_eq_true hlt; omega
    obtain ⟨bA, oA, hp1⟩ := ht1 (by omega)
    subst hp1
    have hx := List.getElem_mem hlt
    refine exI_mk (fun R' Φ' => R' = R2 ∧ Φ' = Φ2) ⟨?_, ?_⟩
    · refine ⟨R2, Φ2, st4, fun w G cx => cx, ⟨by omega, by omega⟩, ptrK_intro bA oA rfl ⟨all[i].val, fun w G cx => ⟨all[i].val, by rw [Int.toNat_natCast]; exact row w G _ _ cx rfl i hlt 1 (by show 1 < 2; decide), rfl⟩, Br.intro (fun h => absurd (of_decide_eq_true h) (hne _ hx)) (fun _ => Br.intro (fun h0 => ?_) (fun _ => ?_))⟩⟩
      · have h0 : 0 < i := by have := of_decide_eq_true h0; omega
        refine ⟨by unfold I64; omega, ⟨by omega, by omega⟩, ptrK_intro bA oA rfl ⟨⟨by omega, by omega⟩, ptrK_intro bA oA rfl ⟨all[i].key, fun w G cx => ⟨all[i].key, by rw [Int.toNat_natCast]; exact row w G _ _ cx rfl i hlt 0 (by show 0 < 2; decide), rfl⟩, (all[i - 1]'(by omega)).key, fun w G cx => ⟨(all[i - 1]'(by omega)).key, by rw [show (max ((i : Int) - 1) 0).toNat = i - 1 by omega]; exact row w G _ _ cx rfl (i - 1) (by omega) 0 (by show 0 < 2; decide), rfl⟩, decide (0 ≤ cmpT (all[i - 1]'(by omega)).key all[i].key), fun w => geq_run _ _ _ _, Br.intro (fun h => ?_) (fun _ => ⟨⟨by omega, by omega⟩, ptrK_intro bA oA rfl ⟨⟨by omega, by omega⟩, ptrK_intro bA oA rfl ⟨all[i].key, fun w G cx => ⟨all[i].key, by rw [Int.toNat_natCast]; exact row w G _ _ cx rfl i hlt 0 (by show 0 < 2; decide), rfl⟩, all[i].val, fun w G cx => ⟨all[i].val, by rw [Int.toNat_natCast]; exact row w G _ _ cx rfl i hlt 1 (by show 1 < 2; decide), rfl⟩, fun w G cx => (hlat _).toS cx ⟨fun w G cx => cx, Br.intro (fun h => absurd (hget _ hx) (of_decide_eq_true h)) (fun _ => ⟨R2, Φ2, st4, fun w G cx => cx, rfl, rfl⟩)⟩⟩⟩⟩)⟩⟩⟩
        have h1 := of_decide_eq_true h
        have h2 := List.pairwise_iff_getElem.1 hasc (i - 1) i (by omega) hlt (by omega)
        omega
      · exact ⟨⟨by omega, by omega⟩, ptrK_intro bA oA rfl ⟨⟨by omega, by omega⟩, ptrK_intro bA oA rfl ⟨all[i].key, fun w G cx => ⟨all[i].key, by rw [Int.toNat_natCast]; exact row w G _ _ cx rfl i hlt 0 (by show 0 < 2; decide), rfl⟩, all[i].val, fun w G cx => ⟨all[i].val, by rw [Int.toNat_natCast]; exact row w G _ _ cx rfl i hlt 1 (by show 1 < 2; decide), rfl⟩, fun w G cx => (hlat _).toS cx ⟨fun w G cx => cx, Br.intro (fun h => absurd (hget _ hx) (of_decide_eq_true h)) (fun _ => ⟨R2, Φ2, st4, fun w G cx => cx, rfl, rfl⟩)⟩⟩⟩⟩
    · rintro R3 Φ3 _ ⟨rfl, rfl⟩
      have hst : (all.take (i + 1)).filter (fun x => preP pre x.key) = (all.take i).filter (fun x => preP pre x.key) ++ (if preP pre all[i].key = true then [all[i]] else []) := by
        rw [List.take_succ_eq_append_getElem hlt, List.filter_append]
        congr 1
        by_cases hp : preP pre all[i].key = true
        · rw [if_pos hp, List.filter_cons_of_pos (p := fun x : PairD => preP pre x.key) hp]; rfl
        · rw [if_neg hp, List.filter_cons_of_neg (p := fun x : PairD => preP pre x.key) hp]; rfl
      refine fun w G cx => ⟨⟨by omega, by omega⟩, ptrK_intro bA oA rfl ⟨all[i].key, by rw [Int.toNat_natCast]; exact row w G _ _ cx rfl i hlt 0 (by show 0 < 2; decide), fun _ => ⟨by omega, by omega⟩, ptrK_intro bA oA rfl ⟨all[i].key, fun _ => by rw [Int.toNat_natCast]; exact row w G _ _ cx rfl i hlt 0 (by show 0 < 2; decide), fun _ => ⟨by omega, by omega⟩, ptrK_intro bA oA rfl ⟨all[i].key, fun _ => by rw [Int.toNat_natCast]; exact row w G _ _ cx rfl i hlt 0 (by show 0 < 2; decide), fun h => by have := of_decide_eq_true h; omega, ?_⟩⟩⟩⟩
      rw [pre_is]
      refine Br.intro (fun hp => ?_) (fun hp => ?_)
      · rw [if_pos hp] at hst
        have hfi : ((all.take i).filter fun x => preP pre x.key).length ≤ i := Nat.le_trans (List.length_filter_le _ _) (by rw [List.length_take]; omega)
        have hat := filter_at (fun x : PairD => preP pre x.key) all i hlt hp
        rw [← hsf] at hat
        obtain ⟨hn, hat⟩ := List.getElem?_eq_some_iff.1 hat
        obtain ⟨bB, oB, hp2⟩ := ht2 (by omega)
        subst hp2
        refine Br.intro (fun h => by have := of_decide_eq_true h; omega) (fun _ => fun w G cx => ⟨⟨by omega, by omega⟩, ptrK_intro bB oB rfl ⟨all[i].key, all[i].val, ?_, ⟨by omega, by omega⟩, ptrK_intro bA oA rfl ⟨all[i].key, all[i].val, by rw [Int.toNat_natCast]; exact row w G _ _ cx rfl i hlt, by kernel_rfl, Br.intro (fun h => by simp at h) (fun _ => ⟨by unfold I64; omega, by unfold I64; omega, R3, Φ3, all.length - (i + 1), st4, fun w G cx => cx, ⟨i + 1, by omega, by omega, by rw [hst, List.length_append]; rfl, rfl, rfl, rfl⟩, by omega⟩)⟩⟩⟩)
        have h1 := sl_pair (b3 _ _ cx.phi) hn
        rw [hat] at h1
        rw [Int.toNat_natCast]
        exact h1
      · rw [if_neg (by rw [hp]; simp), List.append_nil] at hst
        exact ⟨by unfold I64; omega, R3, Φ3, all.length - (i + 1), st4, fun w G cx => cx, ⟨i + 1, by omega, by omega, by rw [hst], rfl, rfl, rfl⟩, by omega⟩
  have hge : i = all.length := by have := of_decide_eq_false hge; omega
  subst hge
  rw [List.take_length, ← hsf]
  refine exI_mk (fun n nI R' Φ' k => ∃ i : Nat, nI = i ∧ i ≤ h.length ∧ n = ((firsts s h i).length : Int) ∧ R' = R2 ∧ Φ' = Φ2 ∧ k = h.length - i)
    ⟨⟨R2, Φ2, _, st4, fun w G cx => cx, 0, rfl, Nat.zero_le _, rfl, rfl, rfl, rfl⟩, ?_⟩
  rintro n nI R3 Φ3 k _ ⟨i, rfl, hi3, rfl, rfl, rfl, rfl⟩
  refine Br.intro (fun hlt => ?_) (fun hge => ?_)
  · have hlt : i < h.length := by have := of_decide_eq_true hlt; omega
    obtain ⟨bK, oK, hpK⟩ := hthK (by omega)
    have hfl := firsts_le s h i
    refine exI_mk (fun c nI R' Φ' k => ∃ j : Nat, nI = j ∧ j ≤ i ∧ c = decide (h[i].key ∉ keysH (h.take j)) ∧ R' = R3 ∧ Φ' = Φ3 ∧ k = i - j)
      ⟨⟨R3, Φ3, _, st4, fun w G cx => cx, 0, rfl, Nat.zero_le _, by rw [List.take_zero]; exact (decide_eq_true (by simp)).symm, rfl, rfl, rfl⟩, ?_⟩
    rintro c nI R4 Φ4 k2 _ ⟨j, rfl, hj, rfl, rfl, rfl, rfl⟩
    refine Br.intro (fun hltj => fun w G cx => ?_) (fun hgej => ?_)
    · have hltj : j < i := by have := of_decide_eq_true hltj; omega
      refine ⟨fun _ => ⟨by omega, by omega⟩, ptrK_intro bK oK hpK ⟨h[j].key, fun _ => by rw [Int.toNat_natCast]; exact keyAt w G _ _ cx hpK j (by omega), fun _ => ⟨by omega, by omega⟩, ptrK_intro bK oK hpK ⟨h[i].key, fun _ => by rw [Int.toNat_natCast]; exact keyAt w G _ _ cx hpK i hlt, by unfold I64; omega, R4, Φ4, i - (j + 1), st4, fun w G cx => cx, ⟨j + 1, by omega, by omega, ?_, rfl, rfl, rfl⟩, by omega⟩⟩⟩
      have e : keysH (h.take (j + 1)) = keysH (h.take j) ++ [h[j].key] := by
        show (h.take (j + 1)).map PairD.key = _
        rw [List.take_succ_eq_append_getElem (by omega), List.map_append]; rfl
      rw [e]
      rw [Bool.eq_iff_iff, Bool.and_eq_true, decide_eq_true_eq, decide_eq_true_eq, decide_eq_true_eq, List.mem_append, List.mem_singleton]
      constructor
      · rintro ⟨h1, h2⟩ (h3 | h3)
        · exact h1 h3
        · exact h2 h3.symm
      · intro h1
        exact ⟨fun h3 => h1 (.inl h3), fun h3 => h1 (.inr h3.symm)⟩
    have hgej : j = i := by have := of_decide_eq_false hgej; omega
    subst hgej
    have hfs : firsts s h (j + 1) = if h[j].key ∉ keysH (h.take j) ∧ getS s h[j].key ≠ tE then firsts s h j ++ [h[j].key] else firsts s h j := by
      show (match h[j]? with
        | none => firsts s h j
        | some x => if x.key ∉ (h.take j).map PairD.key ∧ getS s x.key ≠ tE then firsts s h j ++ [x.key] else firsts s h j) = _
      rw [List.getElem?_eq_getElem hlt]
    refine exI_mk (fun n R' Φ' => n = ((firsts s h (j + 1)).length : Int) ∧ R' = R4 ∧ Φ' = Φ4) ⟨Br.intro (fun hc => ⟨⟨by omega, by omega⟩, ptrK_intro bK oK hpK fun w G cx => ⟨h[j].key, by rw [Int.toNat_natCast]; exact keyAt w G _ _ cx hpK j hlt, fun w G cx => (hlat _).toS cx (Br.intro (fun hv => ⟨by unfold I64; omega, R4, Φ4, st4, fun w G cx => cx, ?_, rfl, rfl⟩) (fun hv => ⟨R4, Φ4, st4, fun w G cx => cx, ?_, rfl, rfl⟩))⟩⟩) (fun hc => ⟨R4, Φ4, st4, fun w G cx => cx, ?_, rfl, rfl⟩), ?_⟩
    · rw [hfs, if_pos ⟨of_decide_eq_true hc, of_decide_eq_true hv⟩, List.length_append]; rfl
    · rw [hfs, if_neg fun h2 => (of_decide_eq_false hv) h2.2]
    · rw [hfs, if_neg fun h2 => (of_decide_eq_false hc) h2.1]
    rintro n R5 Φ5 _ ⟨rfl, rfl, rfl⟩
    exact ⟨R5, Φ5, st4, fun w G cx => cx, ⟨by omega, by omega⟩, ptrK_intro bK oK hpK ⟨⟨by omega, by omega⟩, ptrK_intro bK oK hpK ⟨h[j].key, fun w G cx => ⟨h[j].key, by rw [Int.toNat_natCast]; exact keyAt w G _ _ cx hpK j hlt, rfl⟩, h[j].key, fun w G cx => ⟨h[j].key, by rw [Int.toNat_natCast]; exact keyAt w G _ _ cx hpK j hlt, rfl⟩, fun w G cx => (hG _).toS cx ⟨fun w G cx => cx, fun w G cx => (hlat _).toS cx (Br.intro (fun h => absurd rfl (of_decide_eq_true h)) (fun _ => ⟨by unfold I64; omega, R5, Φ5, h.length - (j + 1), st4, fun w G cx => cx, ⟨j + 1, by omega, by omega, rfl, rfl, rfl, rfl⟩, by omega⟩))⟩⟩⟩⟩
  have hge : i = h.length := by have := of_decide_eq_false hge; omega
  subst hge
  rw [hfa]
  refine Br.intro (fun _ => fun w G cx => (hG key).toS cx (Br.intro (fun _ => Br.intro (fun _ => Br.intro (fun _ => fun w G cx => ?_) (fun h => absurd rfl (of_decide_eq_false h))) (fun h => absurd rfl (of_decide_eq_false h))) (fun h => absurd (hgk key).symm (of_decide_eq_false h)))) (fun h => by cases h)
  have hlen := Len_in (Φ := Φ3) (hΦ := ⟨toS⟩) hC (by omega) (by omega) (by omega) hB.szs
  rw [scan_all, hall] at hlen
  refine hlen.toI cx fun w G cx => ⟨by rw [decide_eq_true rfl], cx.left.weak toP⟩
end Go.Proofs.YtebnciehcnedjaaGreatDoor
end

/-
  From what a row lists as laid to the facts of the walk.
-/
section
set_option linter.unusedVariables false
set_option linter.unusedSimpArgs false
namespace Go.Proofs.YtebnciehcnedjaaGreatDoor
open Go.Vc Go.RowKit


theorem la_row (u : TypeId) (h : Tryz.prog.typeName? 3 u = some "*errors.errorString") : u = 172 :=
  typeName_ptr_named (nm := "errors.errorString") (by rw [show "*" ++ "errors.errorString" = "*errors.errorString" by decide]; kernel_rfl) (by kernel_rfl) (by decide) u (by rw [show "*" ++ "errors.errorString" = "*errors.errorString" by decide]; exact h)

theorem la_err {n : String} {text : List UInt8} {r : List (String × DataW Unit)} {W : World} {g : Nat} (h : laidMet Tryz.prog ((n, .iface "*errors.errorString" (.ptr (.agg [.lit (.string text)]))) :: r) W)
    (hg : Tryz.prog.globalNamed n = some g) (ht : (Tryz.prog.globals[g]?).map (·.type) = some 91) : ErrAt g [] W := by
  obtain ⟨a, s, hv, _⟩ := laid_sentinel h hg ht Tryz.underlying91 la_row Tryz.underlying172 Tryz.underlying174 rfl rfl Tryz.underlying9 (by kernel_rfl) (by kernel_rfl)
  exact ⟨by simp, _, by have h0 := World.var?_cell hg hv 0; simpa using h0, .inr ⟨_, _, rfl⟩⟩

theorem la_num {W : World} (h : laidMetH Tryz.prog Rows.storeBoundsRow.laid W) : NumI [] W := by
  rw [MakeChecks.laidMetH_plain Tryz.prog Rows.storeBoundsRow.laid W (by kernel_rfl)] at h
  have h2 := h.tail.tail
  exact ⟨Tab.start (Lib.tabIs_of_head (k := .u64) (zs := Lib.pow10Tab) (g := 3) (t := 166) (e := 154) (n := 20) (by kernel_rfl) (by kernel_rfl) (by kernel_rfl) (by kernel_rfl) (by kernel_rfl) (by kernel_rfl) h2),
    la_err h2.tail.tail (by kernel_rfl) (by kernel_rfl), la_err h2.tail (by kernel_rfl) (by kernel_rfl)⟩

end Go.Proofs.YtebnciehcnedjaaGreatDoor
end

section
set_option linter.unusedVariables false
set_option linter.unusedSimpArgs false
namespace Go.Proofs.YtebnciehcnedjaaGreatDoor
open Go.ChangeShapes Go.WideShapes Go.ChangeAt Go.RowKit Go.Vc


theorem df_own : ownKnob Tryz.prog.godebug = none := by kernel_rfl
theorem df_laid : laidOutB Tryz.prog = true := by kernel_rfl

theorem trodAll_n {H : Type} {enc : TypeId × Value → H} {P : Program} {w : World} {base : Nat} {spare : Nat → Bool} {held : Bool} {t0 t1 t2 : TypeId} {args : Array Value} {ds : List (DataW H)} {ps : List MemPlace} (h : DataW.TrodAll enc P w base spare held [t0, t1, t2] args.toList ds ps) :
    ∃ v0 v1 v2 d0 d1 d2 p0 p1 p2, args = #[v0, v1, v2] ∧ ds = [d0, d1, d2] ∧ ps = p0 ++ p1 ++ p2 ∧ DataW.Trod enc P w base spare held t0 v0 d0 p0 ∧ DataW.Trod enc P w base spare held t1 v1 d1 p1 ∧ DataW.Trod enc P w base spare held t2 v2 d2 p2 := by
  obtain ⟨v0, vs0, d0, ds0, p0, q0, hargs, rfl, rfl, h0, h⟩ := trodAll_cons h
  obtain ⟨v1, vs1, d1, ds1, p1, q1, rfl, rfl, rfl, h1, h⟩ := trodAll_cons h
  obtain ⟨v2, vs2, d2, ds2, p2, q2, rfl, rfl, rfl, h2, h⟩ := trodAll_cons h
  obtain ⟨rfl, rfl, rfl⟩ := trodAll_nil h
  exact ⟨v0, v1, v2, d0, d1, d2, p0, p1, p2, by cases args; simp_all, rfl, by simp, h0, h1, h2⟩

theorem door_met (os : Os) (args : Array Value) : laidMetH Tryz.prog Rows.storePlainRow.laid ((World.doorLaid Tryz.prog 400 os).forCall (fun _ _ => 0) ⟨#[], args, []⟩).memory :=
  laidMetH_of_parts3 (fuel := 8) (laidMet_of_run' 8 (by kernel_rfl) (by kernel_rfl)) (by kernel_rfl) (by kernel_rfl)

set_option maxRecDepth 100000 in
theorem law_lifted (os : Os) (started : os.Started) (H : Type) (enc : TypeId × Value → H) :
    ReturnsInHanded {} Tryz.checked os 7 .any (fun w args => (Rows.storePlainSpec.pre enc Tryz.prog Tryz.f7 Rows.storePlainRow.domain false w args ∧ laidMetH Tryz.prog Rows.storePlainRow.laid w) ∧ sizedMet enc Tryz.prog Tryz.f7 (OpenSpec.ofChange Rows.storePlainSpec) false w args) (Rows.storePlainSpec.post enc Tryz.prog Tryz.f7 false true false false) := by
  refine lawTrueLaid (C := Tryz.checked) (tb := 4) df_own started (by kernel_rfl) Tryz.func7 df_laid rfl ?_ rfl Tryz.underlying4 (by kernel_rfl)
    (ChangeSpec.witness_shaped (enc := enc) (C := Tryz.checked) (os := os) (X := fun w _ => laidMetH Tryz.prog Rows.storePlainRow.laid w) false (World.doorLaid Tryz.prog 400 os) #[.slice none 0 0, .string .empty, .string .empty] 8 rfl (World.shaped_of_RefB (by kernel_rfl) (by kernel_rfl)) (by kernel_rfl) (by kernel_rfl) (by kernel_rfl) (door_met os _)) ?_
  · intro ds hd
    match ds, hd with
    | [_, _, _], _ => exact ⟨rfl, rfl, rfl⟩
  · intro W base args ds p hval0 hA0 _ hL
    have hval : ∀ (j : Nat) t v, Tryz.f7.params[j]? = some t → args[j]? = some v → Value.okWide Tryz.prog W .any base t v := hval0
    have hA : DataW.TrodAll enc Tryz.prog W 0 (fun _ => true) true Tryz.f7.params.toList args.toList ds p := hA0
    rw [Tryz.params7] at hA hval
    obtain ⟨v0, v1, v2, d0, d1, d2, p0, p1, p2, rfl, rfl, rfl, h0, h1, h2⟩ := trodAll_n hA
    obtain ⟨lp, lc, l, rfl, la, lb, s0⟩ := open_sl (α := OpD) 12 Tryz.underlying22 (hval 0 22 v0 rfl rfl) (by kernel_rfl) h0
    obtain ⟨pre, rfl, rfl, rfl, prew⟩ := Go.ChangeMaps.open_string Tryz.underlying9 (hval 1 9 v1 rfl rfl) h1
    obtain ⟨key, rfl, rfl, rfl, keyw⟩ := Go.ChangeMaps.open_string Tryz.underlying9 (hval 2 9 v2 rfl rfl) h2
    have st0 : Stable (fun M w => Sl M w lp l) := inferInstance
    have st1 : Stable (fun M w => NumI M w ∧ Sl M w lp l) := instStableAnd (fun M w => NumI M w) (fun M w => Sl M w lp l)
    have fin : GivesIn (fun M w => NumI M w ∧ Sl M w lp l) Tryz.prog 7 _ (.bool true) := Plain_in (Φ := (fun M w => NumI M w ∧ Sl M w lp l)) (p := lp) (cap := lc) (l := l) (pre := pre) (key := key) (fun _ _ h => h.1) (fun _ _ h => h.2) (by omega) prew
    exact fin.law ⟨la_num hL, s0⟩

theorem row_holds : Rows.StorePlainSaid :=
  OpenClaim.holds_of_wide 7 Tryz.f7 rfl rfl rfl rfl rfl rfl rfl ⟨rfl, rfl, rfl, rfl, rfl⟩ rfl rfl rfl rfl rfl (by kernel_rfl) Tryz.func7 (by kernel_rfl)
    (of_decide_eq_true (by kernel_rfl)) (by unfold Func.isWrapper; first | (rw [if_pos (by decide +kernel)]; kernel_rfl) | (rw [if_neg (by decide +kernel)]; exact ⟨rfl, rfl⟩))
    (fun os started H enc _ => law_lifted os started H enc)

theorem plain_holds : Rows.StorePlainCardSaid :=
  Claim7.holds_tied_plain_at .later [] [.data, .data, .data, .sentinel, .sentinel] true Rows.storePlainCard.stood.harness true
    row_holds (fun _ h => by cases h) (by kernel_rfl) (fun _ h => by cases h) storePlain_row_tie rfl ⟨rfl, rfl⟩ (by kernel_rfl) rfl
    (fun f fn hf hfn => by
      obtain rfl : f = 7 := Option.some.inj ((show Tryz.prog.funcNamed Rows.storePlainRow.func = some 7 by kernel_rfl).symm.trans hf) |>.symm
      obtain rfl : fn = Tryz.f7 := (Option.some.inj (Tryz.func7.symm.trans hfn)).symm
      exact ⟨by kernel_rfl, fun j t ht => by
        rw [Tryz.params7] at ht
        have hm := Array.mem_of_getElem? ht
        have hall : ((Tryz.f7.params.toList).all fun u => !Tryz.prog.wantsStandIn u) = true := by kernel_rfl
        rw [Tryz.params7] at hall
        exact (show Tryz.prog.wantsStandIn t = false by simpa using List.all_eq_true.1 hall t (by simpa using hm))⟩)
    (by kernel_rfl)

end Go.Proofs.YtebnciehcnedjaaGreatDoor
end

