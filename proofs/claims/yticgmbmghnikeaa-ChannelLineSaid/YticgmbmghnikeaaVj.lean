/-
  The walk of ChannelLine, whole.
-/
import Derived.Test.YticgmbmghnikeaaVi
set_option linter.unusedVariables false
set_option linter.unusedSimpArgs false
namespace Go.Proofs.Yticgmbmghnikeaa
open Go.Vc

theorem roomB {chs : List ChSt} {nx L j : Nat} (h : canB chs nx L j = true) (hj : j < chs.length) : chs[j].q.length < 4 := by
  unfold canB at h
  simp only [Bool.and_eq_true, Bool.or_eq_true, decide_eq_true_eq] at h
  rcases h.2 with h2 | h2
  · omega
  · rw [qlen_at hj] at h2; exact h2

theorem tmod_at {a : Int} {n : Nat} (hn : 0 < n) : (a.tmod n < 0 → 0 ≤ a.tmod n + n ∧ a.tmod n + n < n) ∧ (¬ a.tmod n < 0 → a.tmod n < n) := by
  have h1 := Int.tmod_lt_of_pos a (show (0 : Int) < n by omega)
  have h2 : -(n : Int) < a.tmod n := by
    rcases Int.le_total 0 a with h | h
    · have := Int.tmod_nonneg (n : Int) h; omega
    · have := Int.tmod_lt_of_pos (-a) (show (0 : Int) < n by omega)
      rw [Int.neg_tmod] at this
      omega
  exact ⟨fun h => by omega, fun _ => h1⟩

set_option maxHeartbeats 8000000 in
set_option maxRecDepth 100000 in
theorem Line_pin {Φ : PW} [Stable Φ] (n : Int) (lp : Option Addr) (lcap : Nat) (l : List MsgD) (pp : Option Addr) (pcap : Nat) (picks : List Int) (b o : Nat) (cs : List (List Value)) (hp : 0 < l.length → lp = some ⟨b, o, none⟩) (hΦ : ∀ M w, Φ M w → Pin b o cs l M w)
    (hsl : ∀ M w, Φ M w → Sl M w lp l) (hpk : ∀ M w, Φ M w → Sl M w pp picks) : GivesIn Φ Try.prog F.erratalaw36_ChannelLine #[.int .i64 n, .slice lp l.length lcap, .slice pp picks.length pcap] (.bool true) := by
  refine in_msgs hΦ fun hcs => .there (fun M w h => (hpk M w h).there) fun hpth => ?_
  refine gives_in (Cerratalaw36_ChannelLine_run n lp l.length lcap pp picks.length pcap) fun W R => ?_
  refine fun w G cx => small_g.use cx fun w cx => ⟨true, rfl, R, Φ, inferInstance, cx, fun w G cx => Br.intro (fun h => fun w G cx => ⟨rfl, cx.left⟩) (fun hb => ?_)⟩
  simp only [Bool.or_eq_false_iff, decide_eq_false_iff_not] at hb
  obtain ⟨⟨⟨hn1, hn6⟩, hl40⟩, hp400⟩ := hb
  obtain ⟨N, rfl⟩ : ∃ N : Nat, n = N := ⟨n.toNat, by omega⟩
  -- the line is made
  refine exI_mk (fun ap an ac i R' Φ' k => ∃ chs : List ChSt, i = chs.length ∧ an = chs.length ∧ chs.length ≤ N ∧ R' = .buf ap chs.length ac (ptrs chs) 26 1 :: (owns chs ++ R) ∧ Φ' = (fun M w => Φ M w ∧ LineS chs M w) ∧ k = N - chs.length ∧ ∀ c ∈ chs, c.Ok ∧ c.q = [] ∧ c.sent = 0)
    ⟨⟨.buf none 0 0 [] 26 1 :: (owns [] ++ R), fun M w => Φ M w ∧ LineS [] M w, N, inferInstance, fun w G cx => (cx.weak fun M w h => ⟨h, fun c hc => by cases hc⟩).nobuf 26 1, [], rfl, rfl, Nat.zero_le _, rfl, rfl, rfl, fun c hc => by cases hc⟩, ?_⟩
  rintro ap an ac i R1 Φ1 k _ ⟨chs0, rfl, rfl, hcn, rfl, rfl, rfl, hch⟩
  refine Br.intro (fun hlt => ?_) (fun hge => ?_)
  · have hlt : chs0.length < N := by have := of_decide_eq_true hlt; omega
    refine fun w G cx => New_use cx fun b1 w cx => ⟨some ⟨b1, 0, none⟩, rfl, .blk b1 chan0 53 :: .buf ap chs0.length ac (ptrs chs0) 26 1 :: (owns chs0 ++ R), fun M w => Φ M w ∧ LineS chs0 M w, inferInstance, cx, fun kk w G cx => ?_⟩
    have cxp : Ctx W w (.blk kk [.pointer (some ⟨b1, 0, none⟩)] 26 :: .buf ap chs0.length ac (ptrs chs0) 26 1 :: (.blk b1 chan0 53 :: (owns chs0 ++ R) ++ G)) (fun M w => Φ M w ∧ LineS chs0 M w) := cx.perm (List.Perm.cons _ (List.Perm.swap _ _ _))
    obtain ⟨p', cap', w', hrun, ⟨g, hg⟩, cx'⟩ := Ctx.app1 (P := Try.prog) (ts := 25) (ty := 25) (kb := #[false, false]) (size := 1) (bytes := 8) cxp (by kernel_rfl) (by omega) rfl rfl (by omega) (by omega)
    refine ⟨p', chs0.length + 1, cap', w', hrun, .buf p' (chs0.length + 1) cap' (ptrs chs0 ++ [ptrV b1]) 26 1 :: .blk b1 chan0 53 :: (owns chs0 ++ R), fun M w => Φ M w ∧ LineS chs0 M w, inferInstance, cx', by omega, ptrK_intro g 0 hg fun w G cx => ⟨some ⟨b1, 0, none⟩, ?_, Br.intro (fun h => by cases h) (fun _ => ?_)⟩⟩
    · have hlen : (ptrs chs0).length = chs0.length := by simp [ptrs]
      have := Ctx.bufGet cx 0 rfl hg (i := chs0.length) (v := .pointer (some ⟨b1, 0, none⟩)) (by rw [List.getElem?_append_right (by omega), hlen, Nat.sub_self]; rfl)
      rw [Int.toNat_natCast, Nat.zero_add]
      exact this
    · refine ⟨by unfold I64; omega, .buf p' (chs0 ++ [newCh b1]).length cap' (ptrs (chs0 ++ [newCh b1])) 26 1 :: (owns (chs0 ++ [newCh b1]) ++ R), fun M w => Φ M w ∧ LineS (chs0 ++ [newCh b1]) M w, N - (chs0.length + 1), inferInstance, fun w G cx => ?_, ⟨chs0 ++ [newCh b1], by simp, by simp, by simp; omega, rfl, rfl, by simp, fun c hc => ?_⟩, by omega⟩
      · have e1 : ptrs (chs0 ++ [newCh b1]) = ptrs chs0 ++ [.pointer (some ⟨b1, 0, none⟩)] := by simp [ptrs]
        have e2 : owns (chs0 ++ [newCh b1]) = owns chs0 ++ [.blk b1 chan0 53] := by simp [owns]
        rw [e1, e2, List.length_append, List.length_singleton]
        refine (cx.weak (Ψ := fun M w => Φ M w ∧ LineS (chs0 ++ [newCh b1]) M w) fun M w h => ⟨h.1, fun c hc => ?_⟩).perm ?_
        · rcases List.mem_append.1 hc with hc | hc
          · exact h.2 c hc
          · rw [List.mem_singleton.1 hc]; exact chan0_s M w
        · refine List.Perm.cons _ ?_
          show ((Own.blk b1 chan0 53 :: (owns chs0 ++ R)) ++ G).Perm ((owns chs0 ++ [Own.blk b1 chan0 53] ++ R) ++ G)
          refine List.Perm.append_right G ?_
          rw [List.append_assoc]
          exact List.perm_middle.symm
      · rcases List.mem_append.1 hc with hc | hc
        · exact hch c hc
        · rw [List.mem_singleton.1 hc]; exact ⟨chan0_c, rfl, rfl⟩
  have hge : chs0.length = N := by have := of_decide_eq_false hge; omega
  have hdone : ∀ {w : World} {G : List Own}, Ctx W w (.buf ap chs0.length ac (ptrs chs0) 26 1 :: (owns chs0 ++ R) ++ G) (fun M w => Φ M w ∧ LineS chs0 M w) → Ctx W w R Φ := fun {w G} cx => cx.left.drop1.right.fst
  -- the messages are right
  refine exI_mk (fun n R' Φ' k => ∃ i : Nat, n = i ∧ i ≤ l.length ∧ R' = .buf ap chs0.length ac (ptrs chs0) 26 1 :: (owns chs0 ++ R) ∧ Φ' = (fun M w => Φ M w ∧ LineS chs0 M w) ∧ k = l.length - i ∧ ∀ j, (hj : j < l.length) → j < i → rightM l[j] = true)
    ⟨⟨_, _, _, inferInstance, fun w G cx => cx, 0, rfl, Nat.zero_le _, rfl, rfl, rfl, fun j _ h => by omega⟩, ?_⟩
  rintro n R1 Φ1 k _ ⟨i, rfl, hi, rfl, rfl, rfl, hright⟩
  refine Br.intro (fun hlt => ?_) (fun hgei => ?_)
  · have hlt : i < l.length := by simpa using hlt
    have hp := hp (by omega)
    obtain ⟨q, qc, he, hq1, hq2, hok⟩ := hcs i hlt
    have hlen := len_max hq1 hq2
    have hS : ∀ M w, (Φ M w ∧ LineS chs0 M w) → Sl M w q l[i].deltas := fun M w h => pin_msgSl (hΦ _ _ h.1) hlt he
    refine ⟨by omega, ptrK_intro b o hp fun w G cx => ⟨l[i].kind, l[i].node, l[i].inp, l[i].bucket, l[i].n, q, l[i].deltas.length, qc, pin_msgAt (hΦ _ _ cx.phi.1) hlt he, fun w G cx => ?_⟩⟩
    refine (Few_in (Φ := fun M w => Φ M w ∧ LineS chs0 M w) q qc l[i] hS hlen).use cx fun v w ⟨bf, hbf, _⟩ cx => ?_
    subst hbf
    refine ⟨bf, rfl, _, fun M w => Φ M w ∧ LineS chs0 M w, inferInstance, cx, Br.intro (fun h => fun w G cx => ⟨rfl, hdone cx⟩) (fun _ => ?_)⟩
    refine ⟨by omega, ptrK_intro b o hp fun w G cx => ⟨l[i].kind, l[i].node, l[i].inp, l[i].bucket, l[i].n, q, l[i].deltas.length, qc, pin_msgAt (hΦ _ _ cx.phi.1) hlt he, fun w G cx => ?_⟩⟩
    refine (right_in (Φ := fun M w => Φ M w ∧ LineS chs0 M w) q qc l[i] hS hlen).use cx fun v w ⟨bf, hbf⟩ cx => ?_
    subst hbf
    refine ⟨bf, rfl, _, fun M w => Φ M w ∧ LineS chs0 M w, inferInstance, cx, Br.intro (fun h => fun w G cx => ⟨rfl, hdone cx⟩) (fun _ => ?_)⟩
    refine ⟨by omega, ptrK_intro b o hp fun w G cx => ⟨l[i].kind, l[i].node, l[i].inp, l[i].bucket, l[i].n, q, l[i].deltas.length, qc, pin_msgAt (hΦ _ _ cx.phi.1) hlt he, fun w G cx => ?_⟩⟩
    refine (Right_in (Φ := fun M w => Φ M w ∧ LineS chs0 M w) q qc l[i] hS hlen).use cx fun w cx => ⟨_, rfl, _, fun M w => Φ M w ∧ LineS chs0 M w, inferInstance, cx, Br.intro (fun h => fun w G cx => ⟨rfl, hdone cx⟩) (fun hr => ?_)⟩
    refine ⟨by unfold I64; omega, _, fun M w => Φ M w ∧ LineS chs0 M w, l.length - (i + 1), inferInstance, fun w G cx => cx, ⟨i + 1, rfl, hlt, rfl, rfl, rfl, fun j hj hji => ?_⟩, by omega⟩
    rcases Nat.lt_or_ge j i with h' | h'
    · exact hright j hj h'
    · have : j = i := by omega
      subst this
      simpa using hr
  have hgei : i = l.length := Nat.le_antisymm hi (by simpa using hgei)
  subst hgei
  have hall : ∀ m ∈ l, rightM m = true := fun m hm => by
    obtain ⟨j, hj, rfl⟩ := List.getElem_of_mem hm
    exact hright j hj hj
  have hflat0 : flat chs0 = [] := by
    have : ∀ r : List ChSt, (∀ c ∈ r, c.q = []) → flat r = [] := by
      intro r
      induction r with
      | nil => intro _; rfl
      | cons c r ih => intro h; unfold flat; rw [ih fun c hc => h c (List.mem_cons_of_mem _ hc), h c (by simp)]; rfl
    exact this chs0 fun c hc => (hch c hc).2.1
  have hpot0 : pot chs0 = 0 := by
    have : ∀ r : List ChSt, (∀ c ∈ r, c.q = []) → pot r = 0 := by
      intro r
      induction r with
      | nil => intro _; rfl
      | cons c r ih => intro h; unfold pot; rw [ih fun c hc => h c (List.mem_cons_of_mem _ hc), h c (by simp)]; simp
    exact this chs0 fun c hc => (hch c hc).2.1
  -- the moves
  refine exI_mk (fun next gp gn gc it' R' Φ' k => ∃ (nx it : Nat) (chs : List ChSt) (got : List MsgD) (gs : List Value), next = nx ∧ it' = it ∧ gn = got.length ∧ R' = LR ap ac (ptrs chs0) gp got.length gc gs chs R ∧ Φ' = LPhi Φ chs gs got ∧ k = 300 - it ∧ Inv l N (ptrs chs0) chs got nx it)
    ⟨⟨LR ap ac (ptrs chs0) none 0 0 [] chs0 R, LPhi Φ chs0 [] [], _, inferInstance, fun w G cx => ?_, 0, 0, chs0, [], [], rfl, rfl, rfl, rfl, rfl, rfl, ⟨hge, rfl, Nat.zero_le _, fun c hc => ⟨(hch c hc).1, by rw [(hch c hc).2.2]; exact Nat.le_refl _⟩, by rw [hflat0]; rfl, by rw [hpot0]; simp⟩⟩, ?_⟩
  · exact ((cx.weak (Ψ := LPhi Φ chs0 [] []) fun M w h => ⟨h.1, h.2, Elems.nil⟩).nobuf 31 6).swap
  rintro next gp gn gc it' R1 Φ1 k _ ⟨nx, it, chs, got, gs, rfl, rfl, rfl, rfl, rfl, rfl, hI⟩
  have hit := hI.steps (by omega) (by omega)
  have hchN : chs.length = N := hI.len
  have hptr := hI.ptr
  refine Br.intro (fun hlt => ?_) (fun hge2 => ?_)
  case refine_2 =>
    -- all have arrived
    have hge2 : l.length ≤ got.length := by simpa using hge2
    have hgot := hI.done hge2
    subst hgot
    refine Br.intro (fun _ => fun w G cx => ?_) (fun h => by cases h)
    have cx1 : Ctx W w (.buf gp got.length gc gs 31 6 :: .buf ap chs.length ac (ptrs chs0) 26 1 :: (owns chs ++ R) ++ G) (LPhi Φ chs gs got) := cx.swap
    obtain ⟨cx2, hs, _⟩ := Ctx.freeze (α := MsgD) cx1 cx1.phi.2.2
    have h2 := instStableSl gp got
    have hst : Stable (fun M w => LPhi Φ chs gs got M w ∧ Sl M w gp got) := instStableAnd (LPhi Φ chs gs got) (fun M w => Sl M w gp got)
    refine (rSameList_in (Φ := fun M w => LPhi Φ chs gs got M w ∧ Sl M w gp got) gp lp gc lcap got (fun M w h => h.2) (fun M w h => hsl M w h.1.1) (by omega)).use (cx2.add hs) fun w cx => ⟨true, rfl, .buf ap chs.length ac (ptrs chs0) 26 1 :: (owns chs ++ R), fun M w => LPhi Φ chs gs got M w ∧ Sl M w gp got, hst, cx, fun w G cx => ⟨rfl, ?_⟩⟩
    exact cx.left.drop1.right.weak fun M w h => h.1.1
  have hgl : got.length < l.length := by simpa using hlt
  -- what can be done
  refine exI_mk (fun p n c kI R' Φ' k => ∃ (j : Nat) (can : List Int), kI = j ∧ j ≤ N + 1 ∧ n = can.length ∧ R' = .buf p can.length c (can.map intv) 3 1 :: LR ap ac (ptrs chs0) gp got.length gc gs chs R ∧ Φ' = LPhi Φ chs gs got ∧ k = N + 1 - j ∧ can.length ≤ j ∧ (∀ x ∈ can, ∃ y : Nat, x = y ∧ y ≤ N ∧ canB chs nx l.length y = true) ∧ ∀ y, y < j → canB chs nx l.length y = true → can ≠ [])
    ⟨⟨.buf none 0 0 [] 3 1 :: LR ap ac (ptrs chs0) gp got.length gc gs chs R, LPhi Φ chs gs got, _, inferInstance, fun w G cx => cx.nobuf 3 1, 0, [], rfl, Nat.zero_le _, rfl, rfl, rfl, rfl, Nat.zero_le _, (fun x hx => by cases hx), fun y hy => by omega⟩, ?_⟩
  rintro cp cn cc kI R1 Φ1 k _ ⟨j, can, rfl, hj, rfl, rfl, rfl, rfl, hcl, hcan, hne⟩
  have hread : ∀ {w : World} {G : List Own} {p : Option Addr} {c : Nat} {A : List Own} {Ψ : PW}, Ctx W w (A ++ (LR ap ac (ptrs chs0) gp got.length gc gs chs R ++ G)) Ψ → ∃ g, ap = some ⟨g, 0, none⟩ := fun {w G p c A Ψ} cx => by
    have hpl : (ptrs chs0).length = chs0.length := by simp [ptrs]
    obtain ⟨g, hg, _⟩ := cx.bufCell A.length (by rw [List.getElem?_append_right (Nat.le_refl _), Nat.sub_self]; rfl) (by omega)
    exact ⟨g, hg⟩
  refine Br.intro (fun hjN => fun w G cx => ?_) (fun hjN => fun w G cx => ?_)
  · have hjN : j ≤ N := by have := of_decide_eq_true hjN; omega
    obtain ⟨g, hg⟩ := hread (A := [.buf cp can.length cc (can.map intv) 3 1]) (p := cp) (c := cc) cx
    refine exI_mk (fun c R' Φ' => c = fromB chs nx l.length j ∧ R' = .buf cp can.length cc (can.map intv) 3 1 :: LR ap ac (ptrs chs0) gp got.length gc gs chs R ∧ Φ' = LPhi Φ chs gs got) ⟨?_, ?_⟩
    · refine Br.intro (fun h0 => ?_) (fun h0 => ?_)
      · have h0 : 0 < j := by have := of_decide_eq_true h0; omega
        obtain ⟨i, rfl⟩ : ∃ i, j = i + 1 := ⟨j - 1, by omega⟩
        have hi : i < chs.length := by omega
        have hok : ChanC chs[i].cs chs[i].q chs[i].first chs[i].sent := (hI.ok _ (List.getElem_mem hi)).1
        refine ⟨by unfold I64; omega, by omega, ptrK_intro g 0 hg fun w G cx => ⟨some ⟨chs[i].b, 0, none⟩, ?_, fun w G cx => ?_⟩⟩
        · rw [show (((i + 1 : Nat) : Int) - 1).toNat = i by omega, Nat.zero_add]
          exact Ctx.bufGet cx 1 rfl hg (by rw [← hptr]; exact ptrs_at hi)
        · refine Len_use (i := i + 3) (b := chs[i].b) (cs := chs[i].cs) (t := 53) cx (by rw [List.cons_append, List.getElem?_cons_succ]; exact LR_at ap ac (ptrs chs0) gp got.length gc gs chs R G hi) hok.c25 fun w cx => ⟨_, rfl, .buf cp can.length cc (can.map intv) 3 1 :: LR ap ac (ptrs chs0) gp got.length gc gs chs R, LPhi Φ chs gs got, inferInstance, cx, _, _, inferInstance, fun w G cx => cx, ?_, rfl, rfl⟩
          show _ = decide (0 < qlen chs i)
          rw [qlen_at hi]
          exact decide_eq_decide.2 (by omega)
      · have h0 : j = 0 := by have := of_decide_eq_false h0; omega
        subst h0
        refine ⟨_, LPhi Φ chs gs got, inferInstance, fun w G cx => cx, ?_, rfl, rfl⟩
        unfold fromB
        simp
    · rintro c R1 Φ1 _ ⟨rfl, rfl, rfl⟩
      refine exI_mk (fun c R' Φ' => c = (decide (j = chs.length) || decide (qlen chs j < 4)) ∧ R' = .buf cp can.length cc (can.map intv) 3 1 :: LR ap ac (ptrs chs0) gp got.length gc gs chs R ∧ Φ' = LPhi Φ chs gs got) ⟨?_, ?_⟩
      · refine Br.intro (fun h0 => ?_) (fun h0 => ?_)
        · have h0 : j < N := by have := of_decide_eq_true h0; omega
          have hi : j < chs.length := by omega
          have hok : ChanC chs[j].cs chs[j].q chs[j].first chs[j].sent := (hI.ok _ (List.getElem_mem hi)).1
          have hcnt := hok.count
          refine ⟨by omega, ptrK_intro g 0 hg fun w G cx => ⟨some ⟨chs[j].b, 0, none⟩, ?_, fun w G cx => ?_⟩⟩
          · rw [Int.toNat_natCast, Nat.zero_add]
            exact Ctx.bufGet cx 1 rfl hg (by rw [← hptr]; exact ptrs_at hi)
          · refine Free_use (i := j + 3) (b := chs[j].b) (cs := chs[j].cs) (t := 53) cx (by rw [List.cons_append, List.getElem?_cons_succ]; exact LR_at ap ac (ptrs chs0) gp got.length gc gs chs R G hi) hok.c25 (by omega) (by omega) fun w cx => ⟨_, rfl, .buf cp can.length cc (can.map intv) 3 1 :: LR ap ac (ptrs chs0) gp got.length gc gs chs R, LPhi Φ chs gs got, inferInstance, cx, _, _, inferInstance, fun w G cx => cx, ?_, rfl, rfl⟩
            rw [qlen_at hi, decide_eq_false (show ¬ j = chs.length by omega), Bool.false_or]
            exact decide_eq_decide.2 (by omega)
        · have h0 : j = N := by have := of_decide_eq_false h0; omega
          refine ⟨_, LPhi Φ chs gs got, inferInstance, fun w G cx => cx, ?_, rfl, rfl⟩
          rw [decide_eq_true (show j = chs.length by omega), Bool.true_or]
          exact decide_eq_true (by omega)
      · rintro c R1 Φ1 _ ⟨rfl, rfl, rfl⟩ w G cx
        refine Br.intro (fun hc => fun kk w G cx => ?_) (fun hc => ?_)
        · obtain ⟨p', cap', w', hrun, ⟨g', hg'⟩, cx'⟩ := Ctx.app1 (P := Try.prog) (ts := 23) (ty := 23) (kb := #[false, false]) (size := 1) (bytes := 8) cx (by kernel_rfl) (by omega) rfl rfl (by omega) (by omega)
          refine ⟨p', can.length + 1, cap', w', hrun, .buf p' (can.length + 1) cap' (can.map intv ++ [intv j]) 3 1 :: LR ap ac (ptrs chs0) gp got.length gc gs chs R, LPhi Φ chs gs got, inferInstance, cx', by unfold I64; omega, .buf p' (can ++ [(j : Int)]).length cap' ((can ++ [(j : Int)]).map intv) 3 1 :: LR ap ac (ptrs chs0) gp got.length gc gs chs R, LPhi Φ chs gs got, N + 1 - (j + 1), inferInstance, fun w G cx => ?_, ⟨j + 1, can ++ [(j : Int)], rfl, by omega, by simp, rfl, rfl, rfl, by simp; omega, fun x hx => ?_, fun y _ _ => by simp⟩, by omega⟩
          · rw [List.length_append, List.length_singleton, List.map_append]
            exact cx
          · rcases List.mem_append.1 hx with hx | hx
            · exact hcan x hx
            · exact ⟨j, List.mem_singleton.1 hx, hjN, hc⟩
        · refine ⟨by unfold I64; omega, _, LPhi Φ chs gs got, N + 1 - (j + 1), inferInstance, fun w G cx => cx, ⟨j + 1, can, rfl, by omega, rfl, rfl, rfl, rfl, by omega, hcan, fun y hy hcy => ?_⟩, by omega⟩
          rcases Nat.lt_or_ge y j with h' | h'
          · exact hne y h' hcy
          · have : y = j := by omega
            subst this
            unfold canB at hcy
            rw [hcy] at hc
            cases hc
  · -- one of the steps is chosen
    have hjN : j = N + 1 := by have := of_decide_eq_false hjN; omega
    subst hjN
    have hcan0 : can ≠ [] := by
      obtain ⟨y, hy, hcy⟩ := hI.some (by omega) hgl
      exact hne y (by omega) hcy
    have hclen : 0 < can.length := List.length_pos_iff.2 hcan0
    obtain ⟨g, hg⟩ := hread (A := [.buf cp can.length cc (can.map intv) 3 1]) (p := cp) (c := cc) cx
    obtain ⟨cg, hcg, _⟩ := cx.bufCell 0 rfl (by rw [List.length_map]; exact hclen)
    refine Br.intro (fun h => ?_) (fun _ => ?_)
    · exfalso
      simp only [Bool.or_eq_true, decide_eq_true_eq] at h
      omega
    have hgood : ∀ (i : Nat) (x : Int), can[i]? = some x → ∃ y : Nat, x = y ∧ y ≤ N ∧ canB chs nx l.length y = true := fun i x hx => hcan x (List.mem_of_getElem? hx)
    have hat : ∀ i : Nat, i < can.length → ∃ x, can[i]? = some x := fun i hi => ⟨_, List.getElem?_eq_getElem hi⟩
    obtain ⟨x0, hx0⟩ := hat 0 hclen
    refine ⟨by omega, ptrK_intro cg 0 hcg fun w G cx => ⟨x0, Ctx.bufGet cx 0 rfl hcg (ints_at hx0), ?_⟩⟩
    refine exI_mk (fun kI R' Φ' => ∃ kk : Nat, kI = kk ∧ kk ≤ N ∧ canB chs nx l.length kk = true ∧ R' = LR ap ac (ptrs chs0) gp got.length gc gs chs R ∧ Φ' = LPhi Φ chs gs got) ⟨?_, ?_⟩
    · refine Br.intro (fun hpi => ?_) (fun hpi => ?_)
      · have hpi : it < picks.length := by simpa using hpi
        obtain ⟨pb, po, hpe⟩ := hpth (by omega)
        refine ⟨by omega, ptrK_intro pb po hpe fun w G cx => ⟨picks[it], ?_, by omega, ?_⟩⟩
        · have := hpk _ _ cx.phi.1
          rw [hpe] at this
          rw [Int.toNat_natCast]
          exact sl_int this hpi
        have ht := tmod_at (a := picks[it]) hclen
        refine Br.intro (fun h => ?_) (fun h => ?_)
        · have h := of_decide_eq_true h
          have h1 := ht.1 h
          obtain ⟨x, hx⟩ := hat (picks[it].tmod can.length + can.length).toNat (by omega)
          obtain ⟨y, rfl, hy1, hy2⟩ := hgood _ _ hx
          exact ⟨by unfold I64; omega, by omega, ptrK_intro cg 0 hcg fun w G cx => ⟨_, by rw [Nat.zero_add]; exact Ctx.bufGet cx 0 rfl hcg (ints_at hx), LR ap ac (ptrs chs0) gp got.length gc gs chs R, LPhi Φ chs gs got, inferInstance, fun w G cx => cx.drop1, y, rfl, hy1, hy2, rfl, rfl⟩⟩
        · have h := of_decide_eq_false h
          have h1 := ht.2 h
          obtain ⟨x, hx⟩ := hat (picks[it].tmod can.length).toNat (by omega)
          obtain ⟨y, rfl, hy1, hy2⟩ := hgood _ _ hx
          exact ⟨by omega, ptrK_intro cg 0 hcg fun w G cx => ⟨_, by rw [Nat.zero_add]; exact Ctx.bufGet cx 0 rfl hcg (ints_at hx), LR ap ac (ptrs chs0) gp got.length gc gs chs R, LPhi Φ chs gs got, inferInstance, fun w G cx => cx.drop1, y, rfl, hy1, hy2, rfl, rfl⟩⟩
      · obtain ⟨y, rfl, hy1, hy2⟩ := hgood _ _ hx0
        exact ⟨LR ap ac (ptrs chs0) gp got.length gc gs chs R, LPhi Φ chs gs got, inferInstance, fun w G cx => cx.drop1, y, rfl, hy1, hy2, rfl, rfl⟩
    · rintro kI R1 Φ1 _ ⟨kk, rfl, hkN, hcanK, rfl, rfl⟩ _
      refine exI_mk (fun nx' a0 a1 a2 a3 a4 p mn mc R' Φ' => ∃ (nx2 : Nat) (chs2 : List ChSt) (m : MsgD), nx' = nx2 ∧ a0 = m.kind ∧ a1 = m.node ∧ a2 = m.inp ∧ a3 = m.bucket ∧ a4 = m.n ∧ mn = m.deltas.length ∧ m.deltas.length ≤ mc ∧ mc ≤ maxLen ∧ m.Ok ∧
        R' = LR ap ac (ptrs chs0) gp got.length gc gs chs2 R ∧ Φ' = (fun M w => LPhi Φ chs2 gs got M w ∧ Sl M w p m.deltas) ∧ Hand l N (ptrs chs0) chs2 got nx2 it m kk) ⟨?_, ?_⟩
      · refine Br.intro (fun h0 => ?_) (fun h0 => ?_)
        · have h0 : kk = 0 := by have := of_decide_eq_true h0; omega
          subst h0
          have hnx : nx < l.length := by
            unfold canB fromB at hcanK
            simp only [Bool.and_eq_true, decide_eq_true_eq] at hcanK
            exact hcanK.1
          obtain ⟨q, qc, he, hq1, hq2, hok⟩ := hcs nx hnx
          have h2 := instStableSl q l[nx].deltas
          have hst : Stable (fun M w => LPhi Φ chs gs got M w ∧ Sl M w q l[nx].deltas) := instStableAnd (LPhi Φ chs gs got) (fun M w => Sl M w q l[nx].deltas)
          refine ⟨by omega, ptrK_intro b o (hp (by omega)) fun w G cx => ⟨l[nx].kind, l[nx].node, l[nx].inp, l[nx].bucket, l[nx].n, q, l[nx].deltas.length, qc, pin_msgAt (hΦ _ _ cx.phi.1) hnx he, by unfold I64; omega, LR ap ac (ptrs chs0) gp got.length gc gs chs R, fun M w => LPhi Φ chs gs got M w ∧ Sl M w q l[nx].deltas, hst, fun w G cx => ?_, nx + 1, chs, l[nx], rfl, rfl, rfl, rfl, rfl, rfl, rfl, hq1, hq2, hok, rfl, rfl, ?_⟩⟩
          · exact cx.weak fun M w h => ⟨h, pin_msgSl (hΦ _ _ h.1) hnx he⟩
          · exact hI.src hnx fun h => roomB hcanK h
        · obtain ⟨i, rfl⟩ : ∃ i, kk = i + 1 := ⟨kk - 1, by have := of_decide_eq_false h0; omega⟩
          have hi : i < chs.length := by omega
          have hq : 0 < qlen chs i := by
            unfold canB fromB at hcanK
            simp only [Bool.and_eq_true, decide_eq_true_eq] at hcanK
            exact hcanK.1
          refine ⟨by unfold I64; omega, by omega, ptrK_intro g 0 hg fun w G cx => ⟨some ⟨chs[i].b, 0, none⟩, ?_, fun w G cx => ?_⟩⟩
          · rw [show (((i + 1 : Nat) : Int) - 1).toNat = i by omega, Nat.zero_add]
            exact Ctx.bufGet cx 0 rfl hg (by rw [← hptr]; exact ptrs_at hi)
          · refine take_at hI hi hq (fun h => roomB hcanK h) cx fun m p cap w chs2 h1 h2 hok hH cx => ?_
            have h3 := instStableSl p m.deltas
            have hst : Stable (fun M w => LPhi Φ chs2 gs got M w ∧ Sl M w p m.deltas) := instStableAnd (LPhi Φ chs2 gs got) (fun M w => Sl M w p m.deltas)
            exact ⟨_, _, _, _, _, p, _, cap, 0, rfl, LR ap ac (ptrs chs0) gp got.length gc gs chs2 R, fun M w => LPhi Φ chs2 gs got M w ∧ Sl M w p m.deltas, hst, cx, fun _ => Br.intro (fun h => by simp at h) (fun _ => ⟨_, fun M w => LPhi Φ chs2 gs got M w ∧ Sl M w p m.deltas, hst, fun w G cx => cx, nx, chs2, m, rfl, rfl, rfl, rfl, rfl, rfl, rfl, h1, h2, hok, rfl, rfl, hH⟩)⟩
      · rintro nx' a0 a1 a2 a3 a4 p mn mc R1 Φ1 hst1 ⟨nx2, chs2, m, rfl, rfl, rfl, rfl, rfl, rfl, rfl, hm1, hm2, hmok, rfl, rfl, hH⟩
        have hl2 : chs2.length = N := hH.len
        refine Br.intro (fun hout => fun k2 w G cx => ?_) (fun hin => ?_)
        · have hout : kk = N := by have := of_decide_eq_true hout; omega
          subst hout
          have cxp : Ctx W w (.blk k2 (m.cells p mc) 31 :: .buf gp got.length gc gs 31 6 :: (.buf ap chs2.length ac (ptrs chs0) 26 1 :: (owns chs2 ++ R) ++ G)) (fun M w => LPhi Φ chs2 gs got M w ∧ Sl M w p m.deltas) := cx.perm (List.Perm.cons _ (List.Perm.swap _ _ _))
          have hfl := congrArg List.length hH.flow
          simp only [List.length_append, List.length_cons] at hfl
          obtain ⟨p', cap', w', hrun, _, cx'⟩ := Ctx.app1 (P := Try.prog) (ts := 22) (ty := 22) (kb := #[false, false]) (size := 6) (bytes := 64) cxp (by kernel_rfl) (by omega) rfl rfl (by omega) (by omega)
          refine ⟨p', got.length + 1, cap', w', hrun, LR ap ac (ptrs chs0) p' (got.length + 1) cap' (gs ++ m.cells p mc) chs2 R, fun M w => LPhi Φ chs2 gs got M w ∧ Sl M w p m.deltas, hst1, cx'.swap, by unfold I64; omega, LR ap ac (ptrs chs0) p' (got ++ [m]).length cap' (gs ++ m.cells p mc) chs2 R, LPhi Φ chs2 (gs ++ m.cells p mc) (got ++ [m]), 300 - (it + 1), inferInstance, fun w G cx => ?_, ⟨nx2, it + 1, chs2, got ++ [m], gs ++ m.cells p mc, rfl, rfl, by simp, rfl, rfl, rfl, hH.out⟩, by omega⟩
          rw [List.length_append, List.length_singleton]
          exact cx.weak fun M w h => ⟨h.1.1, h.1.2.1, h.1.2.2.snoc (rep_msg hmok hm1 hm2 h.2)⟩
        · have hin : kk < N := by have := of_decide_eq_false hin; omega
          have hi : kk < chs2.length := by omega
          refine ⟨[], fun _ _ => True, inferInstance, fun w G cx => (cx.weak fun _ _ _ => trivial).right, by omega, ptrK_intro g 0 hg fun w G cx => ⟨some ⟨chs2[kk].b, 0, none⟩, ?_, fun w G cx => ?_⟩⟩
          · rw [Int.toNat_natCast, Nat.zero_add]
            exact Ctx.bufGet cx 0 rfl hg (by rw [← hH.ptr]; exact ptrs_at hi)
          · refine put_at hH hi (by omega) hmok (hall _ hH.mem) cx fun w chs3 hI3 cx => ⟨0, rfl, LR ap ac (ptrs chs0) gp got.length gc gs chs3 R, LPhi Φ chs3 gs got, inferInstance, cx, fun w G cx => (cx.weak fun _ _ _ => trivial).right, Br.intro (fun h => by simp at h) (fun _ => ?_)⟩
            exact ⟨by unfold I64; omega, _, LPhi Φ chs3 gs got, 300 - (it + 1), inferInstance, fun w G cx => cx, ⟨nx2, it + 1, chs3, got, gs, rfl, rfl, rfl, rfl, rfl, rfl, hI3⟩, by omega⟩

end Go.Proofs.Yticgmbmghnikeaa
