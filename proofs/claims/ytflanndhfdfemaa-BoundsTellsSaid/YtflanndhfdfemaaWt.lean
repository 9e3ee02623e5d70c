/-
  The walk of the reference's Analyze.
-/
import Derived.Test.YtflanndhfdfemaaWs
set_option linter.unusedVariables false
set_option linter.unusedSimpArgs false
namespace Go.Proofs.Ytflanndhfdfemaa
open Go.Vc

def maxB (f : BndD → Int) (ys : List BndD) : Int := ys.foldl (fun v y => max v (f y)) 0

def bC (a b c d : Int) : List Value := [.int .i64 a, .int .i64 b, .int .i64 c, .int .i64 d]

theorem bndC_row {acc : List BndD} (h : ∀ y ∈ acc, y.Ok) {i : Nat} (hi : i < acc.length) : ∀ j, (hj : j < (acc.getD i default).cells.length) → (bndC acc)[0 + i * 4 + j]? = some (acc.getD i default).cells[j] := by
  have h1 := (bnd_elems h [] default).2 i hi
  have h2 := bnd_rep h1
  have e : acc.getD i default = acc[i] := by rw [List.getD_eq_getElem?_getD, List.getElem?_eq_getElem hi]; rfl
  rw [e]
  exact rows_of (by rw [Nat.zero_add]; exact h2)

set_option maxRecDepth 100000 in
set_option maxHeartbeats 1000000 in
theorem rAnalyze_pin {Φ : PW} [Stable Φ] (p0P : Option Addr) (p0N p0C : Nat) (p : Option Addr) (cap : Nat) (l : List NodeD) (c : CfgC) (b o : Nat) (cs : List (List Value)) (hp : 0 < l.length → p = some ⟨b, o, none⟩) (hΦ : ∀ M w, Φ M w → Pin b o cs l M w)
    (hsl : ∀ M w, Φ M w → Sl M w p l) (hlen : l.length ≤ 9223372036854775807) :
    GivesBuf Φ Try.prog F.errataref20_Analyze #[.agg #[.slice p0P p0N p0C, .slice p l.length cap], c.v] (analyzeD l c).1.length (bndC (analyzeD l c).1) 37 4 fun u => .tuple #[u, .int .i64 (analyzeD l c).2.1, .int .i64 (analyzeD l c).2.2] := by
  refine gives_buf (Berrataref20_Analyze_run p0P p0N p0C p l.length cap c.parts c.delay c.late c.ahead c.rate c.span) fun W R => ?_
  have hbad : ¬ (cfgB c = true ∧ wellB l = true) → analyzeD l c = ([], -1, 2) := fun h => by unfold analyzeD; rw [if_neg h]
  refine fun _ _ w F cx => (rRightConfig_g c).in.use cx fun w cx => ⟨_, rfl, _, _, inferInstance, cx, Br.intro (fun h => ?_) (fun hc => ?_)⟩
  · have h : cfgB c = false := by simpa using h
    rw [hbad (by simp [h])]
    exact fun w F cx => ⟨none, 0, rfl, cx.left.buf0 37 4⟩
  have hc : cfgB c = true := by simpa using hc
  refine fun w F cx => (rWell_in _ _ _ _ _ _ hsl).use cx fun w cx => ⟨_, rfl, _, _, inferInstance, cx, Br.intro (fun h => ?_) (fun hw => ?_)⟩
  · have h : wellB l = false := by simpa using h
    rw [hbad (by simp [h])]
    exact fun w F cx => ⟨none, 0, rfl, cx.left.buf0 37 4⟩
  have hw : wellB l = true := by simpa using hw
  have han : analyzeD l c = anFrom c 0 l [] := by unfold analyzeD; rw [if_pos ⟨hc, hw⟩]
  rw [han]
  clear hbad han cx
  obtain ⟨res, hres⟩ : ∃ r, r = anFrom c 0 l [] := ⟨_, rfl⟩
  rw [← hres]
  have hwl : l.length ≤ 40 := by simp [wellB, win] at hw; omega
  have hwf : ∀ j, (hj : j < l.length) → nodeOk j l[j] = true := fun j hj => by
    have := (wellFrom_iff l 0).1 (by simp [wellB] at hw; exact hw.1) j hj
    rwa [Nat.zero_add] at this
  refine exI_mk (fun p24 k25 k26 n27 R' Φ' k => ∃ (j : Nat) (acc : List BndD), n27 = j ∧ j ≤ l.length ∧ res = anFrom c j (l.drop j) acc ∧ acc.length = j ∧ (∀ y ∈ acc, AccOk j y) ∧ k25 = acc.length ∧ (0 < acc.length → ∃ g, p24 = some ⟨g, 0, none⟩) ∧ R' = .buf p24 acc.length k26 (bndC acc) 37 4 :: R ∧ Φ' = Φ ∧ k = l.length - j)
    ⟨⟨.buf none 0 0 [] 37 4 :: R, Φ, _, inferInstance, fun w F c => c.buf0 37 4, 0, [], rfl, Nat.zero_le _, hres, rfl, by simp, rfl, fun h => absurd h (Nat.lt_irrefl 0), rfl, rfl, rfl⟩, ?_⟩
  rintro p24 k25 k26 n27 R1 Φ1 k _ ⟨j, acc, rfl, hj, hrun, hal, hao, rfl, hth, rfl, rfl, rfl⟩
  refine Br.intro (fun h => ?_) (fun h => ?_)
  · have hlt : j < l.length := by simpa using h
    refine ⟨by omega, ptrK_intro b o (hp (by omega)) fun w F cx => ?_⟩
    obtain ⟨x, hrow, hlike, h1, h15, hsub, _⟩ := node_at hΦ cx j hlt
    have hthx := (hsub _ _ cx.phi).there
    have hnode := hwf j hlt
    rw [List.drop_eq_getElem_cons hlt] at hrun
    unfold anFrom at hrun
    simp only [nodeOk, Bool.and_eq_true, decide_eq_true_eq, List.all_eq_true] at hnode
    refine ⟨_, _, _, _, _, _, _, _, _, _, _, _, _, _, _, _, _, _, _, _, _, _, _, _, _, _, _, _, _, _, hrow _ _ cx.phi, fun _ w F cx => (rBounded_g x).in.use cx fun w cx => ⟨_, rfl, _, _, inferInstance, cx, Br.intro (fun hb => ?_) (fun hb => ?_)⟩⟩
    · have hb : boundedD l[j] = false := by rw [← hlike.bounded]; simpa using hb
      rw [if_pos hb] at hrun
      subst hrun
      exact fun w F cx => ⟨none, 0, rfl, cx.left.drop1.buf0 37 4⟩
    have hb : boundedB x = true := by simpa using hb
    rw [if_neg (by rw [← hlike.bounded, hb]; simp)] at hrun
    have hao' : ∀ y ∈ acc, y.Ok := fun y hy => (hao y hy).ok (by omega)
    have hir : ∀ i ∈ l[j].inp, 0 ≤ i ∧ i < acc.length := fun i hi => by have := hnode.2 i hi; simp [win] at this; omega
    have hkn : (x.n1N : Int) = kIn x.n0 := by rw [h1, hlike.e0]; exact hnode.1.2
    have hkb := kIn_bd x.n0
    have hS1 : Stable (fun M w => Φ1 ((Own.buf p24 acc.length k26 (bndC acc) 37 4).dom ++ M) w ∧ Parked W (.buf p24 acc.length k26 (bndC acc) 37 4) M w) := inferInstance
    have hrate := rrate_in (Φ := fun M w => Φ1 ((Own.buf p24 acc.length k26 (bndC acc) 37 4).dom ++ M) w ∧ Parked W (.buf p24 acc.length k26 (bndC acc) 37 4) M w) x l[j].inp acc p24 k26 c hc h1 hkn hb
      (fun M w h => (hsub _ _ h.1).less) (fun M w h => h.2.sl (D := []) (bnd_elems hao' _ _)) hir hao'
    have hstate := rstate_in (Φ := fun M w => Φ1 ((Own.buf p24 acc.length k26 (bndC acc) 37 4).dom ++ M) w ∧ Parked W (.buf p24 acc.length k26 (bndC acc) 37 4) M w) x l[j].inp acc p24 k26 c hc h1 (by omega) hb
      (fun M w h => (hsub _ _ h.1).less) (fun M w h => h.2.sl (D := []) (bnd_elems hao' _ _)) hir hao'
    have hbd := boundI_ok (j := j) (inp := l[j].inp) (by omega) hc hb hao
    have hnx := AccOk.next (inp := l[j].inp) (l := acc) hc hb hao
    have hown := own_bd x
    have hyo : ∀ y ∈ insD l[j].inp acc, y.Ok := fun y hy => by
      obtain ⟨i, _, rfl⟩ := List.mem_map.1 hy
      exact getD_ok hao' _
    have hyl : (insD l[j].inp acc).length = l[j].inp.length := by simp [insD]
    have hyq : ∀ q, (hq : q < l[j].inp.length) → (h : q < (insD l[j].inp acc).length) → (insD l[j].inp acc)[q] = acc.getD l[j].inp[q].toNat default := fun q hq h => by simp [insD]
    have hbe : boundI x (insD l[j].inp acc) c = ⟨maxB BndD.back (insD l[j].inp acc) + (ownI x).1, maxB BndD.fore (insD l[j].inp acc) + (ownI x).2, rateI x (insD l[j].inp acc) c, stI x (insD l[j].inp acc) c⟩ := by
      unfold boundI stI foldI maxB
      rw [(fold_fst _ _ _ _ _).1, (fold_fst _ _ _ _ _).2]
    rw [← hlike.bound] at hrun
    rw [hbe] at hrun hbd hnx
    generalize insD l[j].inp acc = ys at *
    generalize rateI x ys c = rate at *
    generalize stI x ys c = st at *
    have cb : ∀ (f : BndD → Int), (∀ y : BndD, y.Ok → 0 ≤ f y ∧ f y ≤ 1000000) → ∀ q, 0 ≤ maxB f (ys.take q) ∧ maxB f (ys.take q) ≤ 1010000 := fun f hf q => by
      have := run_bd (f := f) (o := 0) hf (by omega) (ys.take q) 0 (by omega) (by omega) fun y hy => hyo y (List.mem_of_mem_take hy)
      unfold maxB; simpa only [Int.add_zero] using this
    have cbb := cb BndD.back (fun y h => h.b)
    have cbf := cb BndD.fore (fun y h => h.f)
    refine fun w F cx => (rOwn_g x).in.use cx fun w cx => ⟨_, _, rfl, .buf p24 acc.length k26 (bndC acc) 37 4 :: R, Φ1, inferInstance, cx, ?_⟩
    clear cx
    have put : ∀ {k : Nat} {w w' : World} {G : List Own}, Ctx W w (.blk k (bC 0 0 0 0) 37 :: .buf p24 acc.length k26 (bndC acc) 37 4 :: (R ++ G)) Φ1 → w' = w.setCells k 0 (bC 0 0 rate st) → Ctx W w' (.blk k (bC 0 0 rate st) 37 :: .buf p24 acc.length k26 (bndC acc) 37 4 :: (R ++ G)) Φ1 := fun c e => c.puts 0 e rfl
    refine exI_mk (fun b o R' Φ' => o = 0 ∧ R' = .blk b (bC 0 0 rate st) 37 :: .buf p24 acc.length k26 (bndC acc) 37 4 :: R ∧ Φ' = Φ1) ⟨?_, ?_⟩
    · have store : ∀ (k : Nat) (w : World) (G : List Own), Ctx W w (.blk k (bC 0 0 0 0) 37 :: .buf p24 acc.length k26 (bndC acc) 37 4 :: (R ++ G)) Φ1 → CanWrite w k 0 4 ∧ ∀ w', w' = w.setCells k 0 (bC 0 0 rate st) → ∃ (R' : List Own) (Φ' : PW), Stable Φ' ∧ Ctx W w' (R' ++ G) Φ' ∧ (∀ M w, Φ' M w → Φ1 M w) ∧
          ∃ (R1 : List Own) (Φ2 : PW), Stable Φ2 ∧ (∀ w F, Ctx W w (R' ++ F) Φ' → Ctx W w (R1 ++ F) Φ2) ∧ ((0 : Nat) = 0 ∧ R1 = .blk k (bC 0 0 rate st) 37 :: .buf p24 acc.length k26 (bndC acc) 37 4 :: R ∧ Φ2 = Φ1) :=
        fun k w G cx => ⟨cx.can 0 rfl (by simp [bC]), fun w' e => ⟨.blk k (bC 0 0 rate st) 37 :: .buf p24 acc.length k26 (bndC acc) 37 4 :: R, Φ1, inferInstance, put cx e, fun _ _ h => h, .blk k (bC 0 0 rate st) 37 :: .buf p24 acc.length k26 (bndC acc) 37 4 :: R, Φ1, inferInstance, fun w F c => c, rfl, rfl, rfl⟩⟩
      refine ⟨?_, ?_, trivial⟩
      · refine fun w G cx => hrate.use cx.park fun w cx => ⟨_, rfl, .buf p24 acc.length k26 (bndC acc) 37 4 :: R, Φ1, inferInstance, Ctx.unpark cx, fun _ _ h => h, ?_, ?_, trivial⟩
        · exact fun w G cx => hstate.use cx.park fun w cx => ⟨_, rfl, .buf p24 acc.length k26 (bndC acc) 37 4 :: R, Φ1, inferInstance, Ctx.unpark cx, fun _ _ h => h, fun k => ⟨fun _ _ h => h, fun w G cx => store k w G cx, trivial⟩, trivial⟩
        · exact fun k => ⟨fun _ _ h => h, fun w G cx => hstate.use (Ctx.park (Ctx.swap cx)) fun w cx => ⟨_, rfl, .blk k (bC 0 0 0 0) 37 :: .buf p24 acc.length k26 (bndC acc) 37 4 :: R, Φ1, inferInstance, Ctx.swap (Ctx.unpark cx), fun _ _ h => h, fun w G cx => store k w G cx, trivial⟩, trivial⟩
      · exact fun k => ⟨fun _ _ h => h, fun w G cx => hrate.use (S := .blk k (bC 0 0 0 0) 37 :: (R ++ G)) (Ctx.park (Ctx.swap cx)) fun w cx => ⟨_, rfl, .blk k (bC 0 0 0 0) 37 :: .buf p24 acc.length k26 (bndC acc) 37 4 :: R, Φ1, inferInstance, Ctx.swap (Ctx.unpark cx), fun _ _ h => h,
          fun w G cx => hstate.use (Ctx.park (Ctx.swap cx)) fun w cx => ⟨_, rfl, .blk k (bC 0 0 0 0) 37 :: .buf p24 acc.length k26 (bndC acc) 37 4 :: R, Φ1, inferInstance, Ctx.swap (Ctx.unpark cx), fun _ _ h => h, fun w G cx => store k w G cx, trivial⟩, trivial⟩, trivial⟩
    rintro bb oo R2 Φ2 _ ⟨rfl, rfl, rfl⟩
    rw [h1]
    refine exI_mk (fun n180 R' Φ' k => ∃ i : Nat, n180 = i ∧ i ≤ l[j].inp.length ∧ Φ' = Φ2 ∧ k = l[j].inp.length - i ∧ R' = .blk bb (bC (maxB BndD.back (ys.take i)) (maxB BndD.fore (ys.take i)) rate st) 37 :: .buf p24 acc.length k26 (bndC acc) 37 4 :: R)
      ⟨⟨_, Φ2, _, inferInstance, fun w F c => c, 0, rfl, Nat.zero_le _, rfl, rfl, rfl⟩, ?_⟩
    rintro n180 R3 Φ3 k _ ⟨i, rfl, hi, rfl, rfl, rfl⟩
    have b1 := cbb i
    have b2 := cbf i
    refine Br.intro (fun hlt2 => ?_) (fun hge => ?_)
    · have hlt2 : i < l[j].inp.length := by simpa using hlt2
      obtain ⟨bi, oi, hbi⟩ := hthx (by omega)
      have hri := hir l[j].inp[i] (List.getElem_mem hlt2)
      obtain ⟨g, hg⟩ := hth (by omega)
      have hrow2 := bndC_row hao' (i := l[j].inp[i].toNat) (by omega)
      have hy := hyq i hlt2 (by omega)
      generalize acc.getD l[j].inp[i].toNat default = y at *
      have e1 : max (maxB BndD.back (ys.take i)) y.back = maxB BndD.back (ys.take (i + 1)) := by
        unfold maxB; rw [List.take_succ_eq_append_getElem (by omega), List.foldl_append, ← hy]; rfl
      have e2 : max (maxB BndD.fore (ys.take i)) y.fore = maxB BndD.fore (ys.take (i + 1)) := by
        unfold maxB; rw [List.take_succ_eq_append_getElem (by omega), List.foldl_append, ← hy]; rfl
      refine fun w G cx => ⟨_, cx.get 0 rfl rfl, by omega, ptrK_intro bi oi hbi fun w G cx => ⟨_, sl_int (hbi ▸ hsub _ _ cx.phi) hlt2, by omega, ptrK_intro g 0 hg fun w G cx => ⟨_, cx.bufRow 1 rfl hg hrow2 0 (by simp), fun w G cx => ⟨cx.can 0 rfl (by simp [bC]), fun w' e => ?_⟩⟩⟩⟩
      have cx : Ctx W w' (.blk bb (bC (max (maxB BndD.back (ys.take i)) y.back) (maxB BndD.fore (ys.take i)) rate st) 37 :: .buf p24 acc.length k26 (bndC acc) 37 4 :: (R ++ G)) Φ3 := cx.put 0 e rfl
      rw [e1] at cx
      refine ⟨.blk bb (bC (maxB BndD.back (ys.take (i + 1))) (maxB BndD.fore (ys.take i)) rate st) 37 :: .buf p24 acc.length k26 (bndC acc) 37 4 :: R, Φ3, inferInstance, cx, fun w G cx => ⟨_, cx.get 0 rfl rfl, by omega, ptrK_intro bi oi hbi fun w G cx => ⟨_, sl_int (hbi ▸ hsub _ _ cx.phi) hlt2, by omega, ptrK_intro g 0 hg fun w G cx => ⟨_, cx.bufRow 1 rfl hg hrow2 1 (by simp), fun w G cx => ⟨cx.can 0 rfl (by simp [bC]), fun w' e => ?_⟩⟩⟩⟩⟩
      have cx : Ctx W w' (.blk bb (bC (maxB BndD.back (ys.take (i + 1))) (max (maxB BndD.fore (ys.take i)) y.fore) rate st) 37 :: .buf p24 acc.length k26 (bndC acc) 37 4 :: (R ++ G)) Φ3 := cx.put 0 e rfl
      rw [e2] at cx
      exact ⟨.blk bb (bC (maxB BndD.back (ys.take (i + 1))) (maxB BndD.fore (ys.take (i + 1))) rate st) 37 :: .buf p24 acc.length k26 (bndC acc) 37 4 :: R, Φ3, inferInstance, cx, by unfold I64; omega, _, Φ3, l[j].inp.length - (i + 1), inferInstance, fun w F c => c, ⟨i + 1, rfl, hlt2, rfl, rfl, rfl⟩, by omega⟩
    · have hge : i = l[j].inp.length := Nat.le_antisymm hi (by simpa using hge)
      subst hge
      rw [← hyl, List.take_length] at b1 b2 ⊢
      generalize maxB BndD.back ys = mb at *
      generalize maxB BndD.fore ys = mf at *
      generalize (ownI x).1 = o1 at *
      generalize (ownI x).2 = o2 at *
      refine fun w G cx => ⟨_, cx.get 0 rfl rfl, by unfold I64; omega, fun w G cx => ⟨cx.can 0 rfl (by simp [bC]), fun w' e => ?_⟩⟩
      have cx : Ctx W w' (.blk bb (bC (mb + o1) mf rate st) 37 :: .buf p24 acc.length k26 (bndC acc) 37 4 :: (R ++ G)) Φ3 := cx.put 0 e rfl
      refine ⟨.blk bb (bC (mb + o1) mf rate st) 37 :: .buf p24 acc.length k26 (bndC acc) 37 4 :: R, Φ3, inferInstance, cx, fun w G cx => ⟨_, cx.get 0 rfl rfl, by unfold I64; omega, fun w G cx => ⟨cx.can 0 rfl (by simp [bC]), fun w' e => ?_⟩⟩⟩
      have cx : Ctx W w' (.blk bb (bC (mb + o1) (mf + o2) rate st) 37 :: .buf p24 acc.length k26 (bndC acc) 37 4 :: (R ++ G)) Φ3 := cx.put 0 e rfl
      refine ⟨.blk bb (bC (mb + o1) (mf + o2) rate st) 37 :: .buf p24 acc.length k26 (bndC acc) 37 4 :: R, Φ3, inferInstance, cx, fun w G cx => ⟨_, cx.get 0 rfl rfl, _, fun _ => cx.get 0 rfl rfl, Br.intro (fun hbad => fun w G cx => ?_) (fun hbad => fun w G cx => ?_)⟩⟩
      · rw [if_pos (show badB ⟨mb + o1, mf + o2, rate, st⟩ = true from hbad)] at hrun
        subst hrun
        exact ⟨none, 0, rfl, cx.left.drop1.drop1.buf0 37 4⟩
      · have hbad : badB ⟨mb + o1, mf + o2, rate, st⟩ = false := hbad
        rw [if_neg (by rw [hbad]; simp)] at hrun
        refine ⟨_, _, _, _, cx.row0 0 rfl, fun k253 w G cx => ?_⟩
        have cx : Ctx W w (.blk k253 (bC (mb + o1) (mf + o2) rate st) 37 :: .buf p24 acc.length k26 (bndC acc) 37 4 :: (R ++ G)) Φ3 := cx.sub (List.Sublist.cons_cons _ (List.Sublist.cons _ (List.Sublist.refl _)))
        obtain ⟨p', cap', w', hr, hp', cx⟩ := Ctx.app1 cx k37 (by omega) rfl rfl (by omega) (by omega)
        refine ⟨p', _, cap', w', hr, .buf p' (acc.length + 1) cap' (bndC acc ++ bC (mb + o1) (mf + o2) rate st) 37 4 :: R, Φ3, inferInstance, cx, by unfold I64; omega, .buf p' (acc.length + 1) cap' (bndC acc ++ bC (mb + o1) (mf + o2) rate st) 37 4 :: R, Φ3, l.length - (j + 1), inferInstance, fun w F cx => cx,
          ⟨j + 1, acc ++ [⟨mb + o1, mf + o2, rate, st⟩], rfl, by omega, hrun, by simp [hal], ?_, by simp, ?_, ?_, rfl, rfl⟩, by omega⟩
        · intro z hz
          rcases List.mem_append.1 hz with hz | hz
          · obtain ⟨g1, g2, g3, g4⟩ := hao z hz
            exact ⟨by omega, by omega, g3, g4⟩
          · rw [List.mem_singleton] at hz; subst hz; exact hnx hbad
        · exact fun _ => hp'
        · rw [← bndC_snoc]; simp; rfl
  · have hge : ¬ j < l.length := by simpa using h
    rw [List.drop_of_length_le (by omega)] at hrun
    unfold anFrom at hrun
    subst hrun
    exact fun w F cx => ⟨p24, k26, rfl, cx.left⟩

end Go.Proofs.Ytflanndhfdfemaa
