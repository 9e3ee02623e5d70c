/-
  Three new replicas.
-/
import Derived.Test.YtifgijoeckoojaaRs
set_option linter.unusedVariables false
set_option linter.unusedSimpArgs false
namespace Go.Proofs.Ytifgijoeckoojaa
open Go.Vc

def nd0 (i : Nat) : Node := ⟨newRep i 0 (-1) [], 0, -1, [], 0⟩
def cl0 : Cl := ⟨nd0, []⟩

theorem cl0_wf : cl0.Wf :=
  ⟨fun i hi => ⟨new_wf (by omega) (by decide) (by decide) (by decide) (by decide) ⟨by simp, by simp, by simp, by simp⟩ (by simp), rfl⟩, fun i hi => ⟨rfl, rfl, rfl⟩, fun i hi => .inl rfl, Nat.zero_le _⟩

abbrev rC (b : Nat → Nat) (n : Nat) : List Value := (List.range n).map fun i => ptrV (b i)
abbrev kept0 : List Value := [.int .i64 0, .int .i64 (-1), .slice none 0 0, .int .i64 0]
abbrev sC (n : Nat) : List Value := (List.range n).flatMap fun _ => kept0
abbrev rpsO (b : Nat → Nat) (p : Nat → Option Addr) (c : Nat → Nat) (n : Nat) : List Own := (List.range n).flatMap fun i => repO (b i) (newRep i 0 (-1) []) (p i) (c i)

theorem range_map_put {α β : Type} (f : Nat → α) (g : α → β) (n : Nat) (x : α) : ((List.range (n + 1)).map fun i => g (put f n x i)) = ((List.range n).map fun i => g (f i)) ++ [g x] := by
  rw [List.range_succ, List.map_append, List.map_singleton, put_self]
  congr 1
  exact List.map_congr_left fun i hi => by rw [put_ne f x (by have := List.mem_range.1 hi; omega)]

theorem sC_succ (n : Nat) : sC (n + 1) = sC n ++ kept0 := by
  unfold sC
  rw [List.range_succ, List.flatMap_append]
  simp

theorem rps_succ (b : Nat → Nat) (p : Nat → Option Addr) (c : Nat → Nat) (n x z : Nat) (y : Option Addr) : rpsO (put b n x) (put p n y) (put c n z) (n + 1) = rpsO b p c n ++ repO x (newRep n 0 (-1) []) y z := by
  unfold rpsO
  rw [List.range_succ, List.flatMap_append]
  congr 1
  · rw [List.flatMap_def, List.flatMap_def]
    congr 1
    exact List.map_congr_left fun i hi => by
      have hne : i ≠ n := by have := List.mem_range.1 hi; omega
      rw [put_ne b x hne, put_ne p y hne, put_ne c z hne]
  · simp [put_self]

abbrev bgO (x n : Nat) (rp : Option Addr) (rc : Nat) (sp : Option Addr) (sc : Nat) (b : Nat → Nat) (p : Nat → Option Addr) (c : Nat → Nat) (R : List Own) : List Own :=
  [.blk x [.slice rp n rc, .slice sp n sc, .slice none 0 0] 34, .buf rp n rc (rC b n) 46 1, .buf sp n sc (sC n) 42 4] ++ (rpsO b p c n ++ R)

theorem new_b {n : Nat} (h : n < 3) : newB (n : Int) 0 (-1) [] = true := by
  match n, h with
  | 0, _ => decide
  | 1, _ => decide
  | 2, _ => decide

set_option maxHeartbeats 1000000 in
theorem begin_use {W w : World} {S : List Own} {Φ : PW} [Stable Φ] (cx : Ctx W w S Φ) {K : Ending → World → Prop} (hK : ∀ L w', Ctx W w' (clO L cl0 ++ S) (CPhi Φ L cl0) → K (.returned (.pointer (some ⟨L.x, 0, none⟩))) w') :
    Calls Try.prog F.erratalaw08_begin #[] w K := by
  refine (Berratalaw08_begin_run (J := fun u w' => K (.returned u) w') cx ?_).mono fun e w' ⟨v, he, hj⟩ => by rw [he]; exact hj
  clear cx
  intro x
  refine exI_mk (fun nI R' Φ' k => ∃ (n : Nat) (rp sp : Option Addr) (rc sc : Nat) (b : Nat → Nat) (p : Nat → Option Addr) (c : Nat → Nat), nI = n ∧ n ≤ 3 ∧ R' = bgO x n rp rc sp sc b p c S ∧ Φ' = Φ ∧ k = 3 - n)
    ⟨⟨bgO x 0 none 0 none 0 (fun _ => 0) (fun _ => none) (fun _ => 0) S, Φ, _, inferInstance, fun w F cx => ((cx.nobuf 42 4).nobuf 46 1).perm ?_, 0, none, none, 0, 0, _, _, _, rfl, by omega, rfl, rfl, rfl⟩, ?_⟩
  · exact List.perm_middle (l₁ := [Own.buf none 0 0 [] 46 1, Own.buf none 0 0 [] 42 4])
  rintro nI R1 Φ1 k _ ⟨n, rp, sp, rc, sc, b, p, c, rfl, hn, rfl, rfl, rfl⟩
  refine Br.intro (fun hlt => ?_) (fun hge => fun w F cx => ?_)
  · have hlt : n < 3 := by have := of_decide_eq_true hlt; omega
    have hsub : ∀ {w : World} {A F : List Own} {Ψ : PW} [Stable Ψ], Ctx W w (.blk x [.slice rp n rc, .slice sp n sc, .slice none 0 0] 34 :: A ++ F) Ψ → Ctx W w ([.blk x [.slice rp n rc, .slice sp n sc, .slice none 0 0] 34] ++ F) (fun _ _ => True) := fun cx => (cx.weak fun _ _ _ => trivial).sub (List.Sublist.cons_cons _ (List.sublist_append_right _ _))
    have hsub1 : ∀ {w : World} {a : Own} {A F : List Own} {Ψ : PW} [Stable Ψ], Ctx W w (a :: .blk x [.slice rp n rc, .slice sp n sc, .slice none 0 0] 34 :: A ++ F) Ψ → Ctx W w ([.blk x [.slice rp n rc, .slice sp n sc, .slice none 0 0] 34] ++ F) (fun _ _ => True) := fun cx => (cx.weak fun _ _ _ => trivial).sub (List.Sublist.cons _ (List.Sublist.cons_cons _ (List.sublist_append_right _ _)))
    refine ⟨[.blk x [.slice rp n rc, .slice sp n sc, .slice none 0 0] 34], fun _ _ => True, inferInstance, fun w F cx => hsub cx, rp, n, rc, fun w F cx => ⟨rp, n, rc, cx.get 0 rfl rfl, rfl⟩, fun w F cx => New_use cx n 0 (-1) [] none 0 (fun _ _ _ => Sl.nil) (by simp) (fun h => by rw [new_b hlt] at h; cases h) fun _ bx px cx1 w cx => ?_⟩
    rw [Int.toNat_natCast] at cx
    have cx2 : Ctx W w ([.blk x [.slice rp n rc, .slice sp n sc, .slice none 0 0] 34, .buf rp n rc (rC b n) 46 1, .buf sp n sc (sC n) 42 4] ++ (repO bx (newRep n 0 (-1) []) px cx1 ++ (rpsO b p c n ++ S)) ++ F) Φ1 := by
      refine cx.perm ?_
      have e1 : (repO bx (newRep n 0 (-1) []) px cx1 ++ (bgO x n rp rc sp sc b p c S ++ F)).Perm ((repO bx (newRep n 0 (-1) []) px cx1 ++ [.blk x [.slice rp n rc, .slice sp n sc, .slice none 0 0] 34, .buf rp n rc (rC b n) 46 1, .buf sp n sc (sC n) 42 4]) ++ (rpsO b p c n ++ S ++ F)) := List.Perm.of_eq (by simp)
      exact e1.trans ((List.Perm.append_right _ List.perm_append_comm).trans (List.Perm.of_eq (by simp)))
    refine ⟨some ⟨bx, 0, none⟩, rfl, [.blk x [.slice rp n rc, .slice sp n sc, .slice none 0 0] 34, .buf rp n rc (rC b n) 46 1, .buf sp n sc (sC n) 42 4] ++ (repO bx (newRep n 0 (-1) []) px cx1 ++ (rpsO b p c n ++ S)), Φ1, inferInstance, cx2, fun w F cx => hsub cx, fun k1 => ⟨fun w F cx => hsub1 cx, fun w F cx => ?_⟩⟩
    have cx3 : Ctx W w (.blk k1 [ptrV bx] 46 :: .buf rp n rc (rC b n) 46 1 :: (.blk x [.slice rp n rc, .slice sp n sc, .slice none 0 0] 34 :: .buf sp n sc (sC n) 42 4 :: (repO bx (newRep n 0 (-1) []) px cx1 ++ (rpsO b p c n ++ S)) ++ F)) Φ1 := cx.perm (List.Perm.cons _ (List.Perm.swap _ _ _))
    obtain ⟨rp2, rc2, w2, hrun, _, cx4⟩ := Ctx.app1 (P := Try.prog) (ts := 31) (ty := 31) (kb := #[false, false]) (size := 1) (bytes := 8) cx3 (by kernel_rfl) (by omega) rfl rfl (by omega) (by omega)
    refine ⟨rp2, n + 1, rc2, w2, hrun, .buf rp2 (n + 1) rc2 (rC b n ++ [ptrV bx]) 46 1 :: .blk x [.slice rp n rc, .slice sp n sc, .slice none 0 0] 34 :: .buf sp n sc (sC n) 42 4 :: (repO bx (newRep n 0 (-1) []) px cx1 ++ (rpsO b p c n ++ S)), Φ1, inferInstance, cx4, fun w F cx => hsub1 cx, fun w F cx => ⟨cx.can 1 rfl (by simp), fun w' hw' => ?_⟩⟩
    have cx5 := cx.put 1 hw' rfl
    refine ⟨.buf rp2 (n + 1) rc2 (rC b n ++ [ptrV bx]) 46 1 :: .blk x [.slice rp2 (n + 1) rc2, .slice sp n sc, .slice none 0 0] 34 :: .buf sp n sc (sC n) 42 4 :: (repO bx (newRep n 0 (-1) []) px cx1 ++ (rpsO b p c n ++ S)), Φ1, inferInstance, cx5, fun w F cx => ⟨sp, n, sc, cx.get 1 rfl rfl, fun k2 w F cx => ?_⟩⟩
    have cx6 : Ctx W w (.blk k2 kept0 42 :: .buf sp n sc (sC n) 42 4 :: ([.buf rp2 (n + 1) rc2 (rC b n ++ [ptrV bx]) 46 1, .blk x [.slice rp2 (n + 1) rc2, .slice sp n sc, .slice none 0 0] 34] ++ (repO bx (newRep n 0 (-1) []) px cx1 ++ (rpsO b p c n ++ S)) ++ F)) Φ1 := cx.perm (List.Perm.cons _ (List.perm_middle (l₁ := [Own.buf rp2 (n + 1) rc2 (rC b n ++ [ptrV bx]) 46 1, Own.blk x [.slice rp2 (n + 1) rc2, .slice sp n sc, .slice none 0 0] 34])))
    obtain ⟨sp2, sc2, w3, hrun2, _, cx7⟩ := Ctx.app1 (P := Try.prog) (ts := 32) (ty := 32) (kb := #[false, false]) (size := 4) (bytes := 48) cx6 (by kernel_rfl) (by omega) rfl rfl (by omega) (by omega)
    refine ⟨sp2, n + 1, sc2, w3, hrun2, .buf sp2 (n + 1) sc2 (sC n ++ kept0) 42 4 :: .buf rp2 (n + 1) rc2 (rC b n ++ [ptrV bx]) 46 1 :: .blk x [.slice rp2 (n + 1) rc2, .slice sp n sc, .slice none 0 0] 34 :: (repO bx (newRep n 0 (-1) []) px cx1 ++ (rpsO b p c n ++ S)), Φ1, inferInstance, cx7, fun w F cx => ⟨cx.can 2 rfl (by simp), fun w' hw' => ?_⟩⟩
    have cx8 := cx.put 2 hw' rfl
    have cx9 : Ctx W w' (bgO x (n + 1) rp2 rc2 sp2 sc2 (put b n bx) (put p n px) (put c n cx1) S ++ F) Φ1 := by
      unfold bgO
      rw [sC_succ, rps_succ, show rC (put b n bx) (n + 1) = rC b n ++ [ptrV bx] from range_map_put b ptrV n bx]
      refine cx8.perm ?_
      have e1 : ([Own.buf sp2 (n + 1) sc2 (sC n ++ kept0) 42 4, .buf rp2 (n + 1) rc2 (rC b n ++ [ptrV bx]) 46 1, .blk x [.slice rp2 (n + 1) rc2, .slice sp2 (n + 1) sc2, .slice none 0 0] 34]).Perm [.blk x [.slice rp2 (n + 1) rc2, .slice sp2 (n + 1) sc2, .slice none 0 0] 34, .buf rp2 (n + 1) rc2 (rC b n ++ [ptrV bx]) 46 1, .buf sp2 (n + 1) sc2 (sC n ++ kept0) 42 4] := List.reverse_perm [Own.blk x [.slice rp2 (n + 1) rc2, .slice sp2 (n + 1) sc2, .slice none 0 0] 34, .buf rp2 (n + 1) rc2 (rC b n ++ [ptrV bx]) 46 1, .buf sp2 (n + 1) sc2 (sC n ++ kept0) 42 4]
      have e2 : (repO bx (newRep n 0 (-1) []) px cx1 ++ (rpsO b p c n ++ S) ++ F).Perm (rpsO b p c n ++ repO bx (newRep n 0 (-1) []) px cx1 ++ S ++ F) := by
        have e3 : (repO bx (newRep n 0 (-1) []) px cx1 ++ (rpsO b p c n ++ S) ++ F).Perm ((repO bx (newRep n 0 (-1) []) px cx1 ++ rpsO b p c n) ++ (S ++ F)) := List.Perm.of_eq (by simp)
        exact e3.trans ((List.Perm.append_right _ List.perm_append_comm).trans (List.Perm.of_eq (by simp)))
      exact (e1.append e2).trans (List.Perm.of_eq (by simp))
    exact ⟨_, Φ1, inferInstance, cx9, by unfold I64; omega, _, Φ1, _, inferInstance, fun w F cx => cx, ⟨n + 1, rp2, sp2, rc2, sc2, put b n bx, put p n px, put c n cx1, rfl, hlt, rfl, rfl, rfl⟩, by omega⟩
  · have hn3 : n = 3 := by have := of_decide_eq_false hge; omega
    subst hn3
    obtain ⟨g, hg, _⟩ := cx.bufCell 1 rfl (show 0 < 3 by decide)
    have h0 := cx.bufGet 1 rfl hg (show (rC b 3)[0]? = some (ptrV (b 0)) from rfl)
    have h1 := cx.bufGet 1 rfl hg (show (rC b 3)[1]? = some (ptrV (b 1)) from rfl)
    have h2 := cx.bufGet 1 rfl hg (show (rC b 3)[2]? = some (ptrV (b 2)) from rfl)
    refine ⟨rp, 3, rc, cx.get 0 rfl rfl, by omega, ptrK_intro g 0 hg ⟨some ⟨b 0, 0, none⟩, h0, rp, 3, rc, fun _ => cx.get 0 rfl rfl, fun _ => by omega, ptrK_intro g 0 hg ⟨some ⟨b 1, 0, none⟩, fun _ => h1, rp, 3, rc, fun _ => cx.get 0 rfl rfl, fun _ => by omega, ptrK_intro g 0 hg ⟨some ⟨b 2, 0, none⟩, fun _ => h2, Br.intro (fun h => by cases h) (fun _ => fun w F cx => ?_)⟩⟩⟩⟩
    have cx1 := (cx.left).nobuf 37 9
    have hL : ∃ L : Lay, L = ⟨x, rp, rc, sp, sc, none, 0, [], b, p, c, fun _ => none, fun _ => 0⟩ := ⟨_, rfl⟩
    obtain ⟨L, hL⟩ := hL
    have cx2 : Ctx W w (clO L cl0 ++ S) Φ1 := by
      refine cx1.perm ?_
      rw [hL]
      exact (List.perm_middle (l₁ := [Own.blk x [.slice rp 3 rc, .slice sp 3 sc, .slice none 0 0] 34, .buf rp 3 rc (rC b 3) 46 1, .buf sp 3 sc (sC 3) 42 4])).symm.trans (List.Perm.of_eq (by simp [rpsO, clO, heads, repsO, repI, cl0, nd0, List.range_succ]; exact ⟨rfl, rfl⟩))
    have := hK L w (cx2.weak fun M w h => ⟨h, by rw [hL]; exact ⟨Elems.nil, ⟨Nat.le_refl _, Sl.nil⟩, ⟨Nat.le_refl _, Sl.nil⟩, ⟨Nat.le_refl _, Sl.nil⟩⟩⟩)
    rw [hL] at this
    exact this

end Go.Proofs.Ytifgijoeckoojaa
