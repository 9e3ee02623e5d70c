/-
  For every input erratalaw39.CheckpointCut returns true, does not panic, comes to an end, and leaves what came in as it was.
  Conditions: none beyond the given statement's own (CheckpointCutSaid).
-/
import Derived.Test.YtmlnockcmdameaaCkC8
import Derived.Test.YtmlnockcmdameaaRows

/-
  begin, walked.
-/
section
set_option linter.unusedVariables false
set_option linter.unusedSimpArgs false
namespace Go.Proofs.Ytmlnockcmdameaa
open Go.Vc


section
variable {W w : World} {S : List Own} {Φ : PW}

/-- one more cell at the end of an array -/
theorem _root_.Go.Vc.Ctx.arrPush [Stable Φ] {kb : Nat} {v : Value} {t' : TypeId} (j : Nat) {p : Option Addr} {cp k : Nat} {t : TypeId} {g : Nat → Value} (c : Ctx W w (.blk kb [v] t' :: S) Φ) (hj : S[j]? = some (arr p cp k t g)) {ts ty : TypeId} {ck : Array Bool} {bytes : Nat} (hb : appB Try.prog ts t 1 bytes = true) (hby : bytes ≤ 1000) (h1 : oneC v = true) (hk : k < 1000000) {g' : Nat → Value} (hg : ∀ i, i < k → g' i = g i) (hv : g' k = v) :
    ∃ p' cp' w', Sem.run Try.prog (builtin Builtin.append #[ts, ts] ty ck #[.slice p k cp, .slice (some ⟨kb, 0, none⟩) 1 1]) w = .ok (.value (.slice p' (k + 1) cp')) w' ∧ Ctx W w' (S.set j (arr p' cp' (k + 1) t g')) Φ := by
  obtain ⟨p', cp', w', hr, c2⟩ := c.app1At j hj (ts := ts) (ty := ty) (kb := ck) (bytes := bytes) hb (by decide) rfl (by simp [h1]) (by omega) hby
  refine ⟨p', cp', w', hr, ?_⟩
  have e : (List.range k).map g ++ [v] = (List.range (k + 1)).map g' := by
    rw [List.range_succ, List.map_append, List.map_singleton, hv]
    exact congrArg (· ++ [v]) (List.map_congr_left fun i hi => (hg i (List.mem_range.1 hi)).symm)
  rw [e] at c2
  exact c2

abbrev front (xb : Nat) (cs : List Value) (a1 a2 a3 a4 a5 a6 a7 a8 : Own) : List Own := [.blk xb cs 40, a1, a2, a3, a4, a5, a6, a7, a8]
abbrev cellsN (e c g b r m bd h f : Value) : List Value := [e, c, g, b, r, m, bd, h, f, .int .i64 0, .int .i64 0]
abbrev nilS : Value := .slice none 0 0

structure Fresh0 (x : NtD) : Prop where
  kind : x.kind = 0
  num : x.num = 0
  ins : ∀ i, i < x.n → x.ins i = ⟨⟨degK x i x.ne, [], 0, 0⟩, [], false⟩
  eds : ∀ k, k < x.ne → x.eds k = ⟨(x.eds k).src, (x.eds k).dst, [], 0, [], [], [], []⟩

theorem insO_snoc (ia : Nat → IA) (x : NtD) (i : Nat) : insO ia x (List.range (i + 1)) = insO ia x (List.range i) ++ inK (ia i) (x.ins i) := by
  unfold insO; rw [List.range_succ, List.flatMap_append]; simp
theorem edsO_snoc (ea : Nat → EA) (x : NtD) (k : Nat) : edsO ea x (List.range (k + 1)) = edsO ea x (List.range k) ++ edK (ea k) (x.eds k) := by
  unfold edsO; rw [List.range_succ, List.flatMap_append]; simp
theorem insO_cong {ia ia' : Nat → IA} (x : NtD) {i : Nat} (h : ∀ j, j < i → ia' j = ia j) : insO ia' x (List.range i) = insO ia x (List.range i) :=
  flatMap_same fun j hj => by rw [h j (List.mem_range.1 hj)]
theorem edsO_cong {ea ea' : Nat → EA} (x : NtD) {i : Nat} (h : ∀ j, j < i → ea' j = ea j) : edsO ea' x (List.range i) = edsO ea x (List.range i) :=
  flatMap_same fun j hj => by rw [h j (List.mem_range.1 hj)]

theorem perm_new {a b L R : List Own} : (a ++ (b ++ (L ++ R))).Perm (b ++ ((L ++ a) ++ R)) := by
  refine (List.perm_append_comm_assoc a b (L ++ R)).trans (List.Perm.append_left b ?_)
  rw [List.append_assoc]
  exact List.perm_append_comm_assoc a L R

set_option maxHeartbeats 4000000 in
theorem begin_use [Stable Φ] {x : NtD} (hF : Fresh0 x) {lP : Option Addr} {lC eg eo : Nat} (hptr : 0 < x.ne → lP = some ⟨eg, eo, none⟩) (hrow : ∀ M w, Φ M w → ∀ k, k < x.ne → RowAt w eg (eo + k * 2) [.int .i64 (x.eds k).src, .int .i64 (x.eds k).dst]) (hn : x.n ≤ 1000) (hne : x.ne ≤ 1000)
    (c : Ctx W w S Φ) {K : Ending → World → Prop}
    (hk : ∀ A ea ia w', EdF Φ A x → NP ea ia x → Ctx W w' (lay A ea ia x ++ S) Φ → K (.returned (.pointer (some ⟨A.xb, 0, none⟩))) w') : Calls Try.prog F.erratalaw39_begin #[.int .i64 x.n, .slice lP x.ne lC] w K := by
  refine (Berratalaw39_begin_run x.n lP x.ne lC (J := fun u w' => K (.returned u) w') c ?_).mono fun e w' ⟨v, he, hj⟩ => by rw [he]; exact hj
  intro xb
  -- the instances
  refine exI_mk (fun ni R' Φ' m => ∃ (i : Nat) (ia : Nat → IA) (gap bxp : Option Addr) (gac bxc : Nat), ni = i ∧ i ≤ x.n ∧ R' = front xb (cellsN (.slice lP x.ne lC) nilS (.slice gap i gac) (.slice bxp i bxc) nilS nilS nilS nilS nilS) (arr none 0 0 49 (fun _ => nilS)) (arr gap gac i 52 (gGa ia)) (arr bxp bxc i 33 (gBx ia x)) (arr none 0 0 4 (fun _ => nilS)) (arr none 0 0 58 (fun _ => nilS)) (arr none 0 0 58 (fun _ => nilS)) (arr none 0 0 58 (fun _ => nilS)) (arr none 0 0 58 (fun _ => nilS)) ++ (insO ia x (List.range i) ++ S) ∧ Φ' = Φ ∧ m = x.n - i ∧ ∀ j, j < i → GtP (ia j).gt (x.ins j).gate)
    ⟨⟨_, Φ, _, inferInstance, fun w G cx => ?_, 0, fun _ => ⟨⟨0, 0, [], 0⟩, none, 0⟩, none, none, 0, 0, rfl, Nat.zero_le _, rfl, rfl, rfl, fun j hj => by omega⟩, ?_⟩
  · have c1 := (((((((cx.nobuf 58 1).nobuf 58 1).nobuf 58 1).nobuf 58 1).nobuf 4 1).nobuf 33 1).nobuf 52 1).nobuf 49 1
    have c2 : Ctx W w ([.buf none 0 0 [] 49 1, .buf none 0 0 [] 52 1, .buf none 0 0 [] 33 1, .buf none 0 0 [] 4 1, .buf none 0 0 [] 58 1, .buf none 0 0 [] 58 1, .buf none 0 0 [] 58 1, .buf none 0 0 [] 58 1] ++ .blk xb (cellsN (.slice lP x.ne lC) nilS nilS nilS nilS nilS nilS nilS nilS) 40 :: (S ++ G)) Φ := c1
    exact c2.perm List.perm_middle
  rintro ni R1 Φ1 m _ ⟨i, ia, gap, bxp, gac, bxc, rfl, hin, rfl, rfl, rfl, hgt⟩
  refine Br.intro (fun hlt => ?_) (fun hge => ?_)
  · have hlt : i < x.n := by have := of_decide_eq_true hlt; omega
    -- how many channels come to it
    refine exI_mk (fun n1 n2 R' Φ' m => ∃ k : Nat, n1 = (degK x i k : Nat) ∧ n2 = k ∧ k ≤ x.ne ∧ R' = front xb (cellsN (.slice lP x.ne lC) nilS (.slice gap i gac) (.slice bxp i bxc) nilS nilS nilS nilS nilS) (arr none 0 0 49 (fun _ => nilS)) (arr gap gac i 52 (gGa ia)) (arr bxp bxc i 33 (gBx ia x)) (arr none 0 0 4 (fun _ => nilS)) (arr none 0 0 58 (fun _ => nilS)) (arr none 0 0 58 (fun _ => nilS)) (arr none 0 0 58 (fun _ => nilS)) (arr none 0 0 58 (fun _ => nilS)) ++ (insO ia x (List.range i) ++ S) ∧ Φ' = Φ1 ∧ m = x.ne - k) ⟨⟨_, Φ1, _, inferInstance, fun w G cx => cx, 0, rfl, rfl, Nat.zero_le _, rfl, rfl, rfl⟩, ?_⟩
    rintro n1 n2 R2 Φ2 m _ ⟨k, rfl, rfl, hkn, rfl, rfl, rfl⟩
    have hdk : degK x i k ≤ k := by
      have key : ∀ k, degK x i k ≤ k := fun k => by
        induction k with
        | zero => exact Nat.le_refl _
        | succ k ih => unfold degK; split <;> omega
      exact key k
    refine Br.intro (fun hl2 => ?_) (fun hg2 => ?_)
    · have hl2 : k < x.ne := by have := of_decide_eq_true hl2; omega
      refine ⟨⟨by omega, by omega⟩, ptrK_intro eg eo (hptr (by omega)) fun w G cx => ⟨((x.eds k).dst : Int), hrow _ _ cx.phi k hl2 1 (by simp), ?_⟩⟩
      rw [dec_nat]
      refine Br.intro (fun h => ?_) (fun h => ?_)
      · exact ⟨by unfold I64; omega, by unfold I64; omega, _, Φ2, x.ne - (k + 1), inferInstance, fun w G cx => cx, ⟨k + 1, by rw [degK, if_pos (of_decide_eq_true h)]; omega, by omega, hl2, rfl, rfl, rfl⟩, by omega⟩
      · exact ⟨by unfold I64; omega, _, Φ2, x.ne - (k + 1), inferInstance, fun w G cx => cx, ⟨k + 1, by rw [degK, if_neg (of_decide_eq_false h)], by omega, hl2, rfl, rfl, rfl⟩, by omega⟩
    have hg2 : k = x.ne := by have := of_decide_eq_false hg2; omega
    subst hg2
    obtain ⟨D, hD⟩ : ∃ D, D = degK x i x.ne := ⟨_, rfl⟩
    rw [← hD]
    have hxi : x.ins i = ⟨⟨D, [], 0, 0⟩, [], false⟩ := by rw [hF.ins i hlt, hD]
    refine ⟨[.blk xb (cellsN (.slice lP x.ne lC) nilS (.slice gap i gac) (.slice bxp i bxc) nilS nilS nilS nilS nilS) 40], tru, inferInstance, fun w F cx => cut_to cx (.cons_cons _ (List.nil_sublist _)), _, _, _, fun w F cx => ⟨_, _, _, cx.get 0 rfl rfl, rfl⟩, fun w G cx => NewGate_use cx D fun a w ha cx => ?_⟩
    refine ⟨some ⟨a.gb, 0, none⟩, rfl, gtB a ⟨D, [], 0, 0⟩ :: gtM a :: (front xb (cellsN (.slice lP x.ne lC) nilS (.slice gap i gac) (.slice bxp i bxc) nilS nilS nilS nilS nilS) (arr none 0 0 49 (fun _ => nilS)) (arr gap gac i 52 (gGa ia)) (arr bxp bxc i 33 (gBx ia x)) (arr none 0 0 4 (fun _ => nilS)) (arr none 0 0 58 (fun _ => nilS)) (arr none 0 0 58 (fun _ => nilS)) (arr none 0 0 58 (fun _ => nilS)) (arr none 0 0 58 (fun _ => nilS)) ++ (insO ia x (List.range i) ++ S)), Φ2, inferInstance, cx, fun w F cx => cut_to cx (.cons _ (.cons _ (.cons_cons _ (List.nil_sublist _)))), fun kb => ⟨fun w F cx => cut_to cx (.cons _ (.cons _ (.cons _ (.cons_cons _ (List.nil_sublist _))))), fun w F cx => ?_⟩⟩
    obtain ⟨ia', hia'⟩ : ∃ ia', ia' = upd ia i ⟨a, none, 0⟩ := ⟨_, rfl⟩
    have hiai : ia' i = ⟨a, none, 0⟩ := by rw [hia', upd_self]
    have hiaj : ∀ j, j < i → ia' j = ia j := fun j hj => by rw [hia', upd_ne (by omega)]
    obtain ⟨p1, c1, w1, hr1, cy⟩ := Ctx.arrPush (ts := 35) (ty := 35) (ck := #[false, false]) (bytes := 8) (g' := gGa ia') 4 cx rfl (by kernel_rfl) (by decide) rfl (by omega) (fun j hj => by unfold gGa; rw [hiaj j hj]) (by unfold gGa; rw [hiai])
    refine ⟨p1, _, c1, w1, hr1, gtB a ⟨D, [], 0, 0⟩ :: gtM a :: (front xb (cellsN (.slice lP x.ne lC) nilS (.slice gap i gac) (.slice bxp i bxc) nilS nilS nilS nilS nilS) (arr none 0 0 49 (fun _ => nilS)) (arr p1 c1 (i + 1) 52 (gGa ia')) (arr bxp bxc i 33 (gBx ia x)) (arr none 0 0 4 (fun _ => nilS)) (arr none 0 0 58 (fun _ => nilS)) (arr none 0 0 58 (fun _ => nilS)) (arr none 0 0 58 (fun _ => nilS)) (arr none 0 0 58 (fun _ => nilS)) ++ (insO ia x (List.range i) ++ S)), Φ2, inferInstance, cy, fun w F cx => cut_to cx (.cons _ (.cons _ (.cons_cons _ (List.nil_sublist _)))), fun w G cx => ⟨Ctx.can cx 2 rfl (by show 2 + 1 ≤ 11; omega), fun w' hw' => ?_⟩⟩
    have cz := Ctx.put cx 2 hw' rfl
    refine ⟨gtB a ⟨D, [], 0, 0⟩ :: gtM a :: (front xb (cellsN (.slice lP x.ne lC) nilS (.slice p1 (i + 1) c1) (.slice bxp i bxc) nilS nilS nilS nilS nilS) (arr none 0 0 49 (fun _ => nilS)) (arr p1 c1 (i + 1) 52 (gGa ia')) (arr bxp bxc i 33 (gBx ia x)) (arr none 0 0 4 (fun _ => nilS)) (arr none 0 0 58 (fun _ => nilS)) (arr none 0 0 58 (fun _ => nilS)) (arr none 0 0 58 (fun _ => nilS)) (arr none 0 0 58 (fun _ => nilS)) ++ (insO ia x (List.range i) ++ S)), Φ2, inferInstance, cz, fun w G cx => ⟨_, _, _, Ctx.get cx 2 rfl rfl, fun kb2 w F cx => ?_⟩⟩
    clear cy cz hr1
    obtain ⟨p2, c2, w2, hr2, cy⟩ := Ctx.arrPush (ts := 36) (ty := 36) (ck := #[false, false]) (bytes := 24) (g' := gBx ia' x) 5 cx rfl (by kernel_rfl) (by decide) rfl (by omega) (fun j hj => by unfold gBx; rw [hiaj j hj]) (by unfold gBx; rw [hiai, hxi]; rfl)
    refine ⟨p2, _, c2, w2, hr2, gtB a ⟨D, [], 0, 0⟩ :: gtM a :: (front xb (cellsN (.slice lP x.ne lC) nilS (.slice p1 (i + 1) c1) (.slice bxp i bxc) nilS nilS nilS nilS nilS) (arr none 0 0 49 (fun _ => nilS)) (arr p1 c1 (i + 1) 52 (gGa ia')) (arr p2 c2 (i + 1) 33 (gBx ia' x)) (arr none 0 0 4 (fun _ => nilS)) (arr none 0 0 58 (fun _ => nilS)) (arr none 0 0 58 (fun _ => nilS)) (arr none 0 0 58 (fun _ => nilS)) (arr none 0 0 58 (fun _ => nilS)) ++ (insO ia x (List.range i) ++ S)), Φ2, inferInstance, cy, fun w G cx => ⟨Ctx.can cx 2 rfl (by show 3 + 1 ≤ 11; omega), fun w' hw' => ?_⟩⟩
    have cz := Ctx.put cx 2 hw' rfl
    refine ⟨gtB a ⟨D, [], 0, 0⟩ :: gtM a :: (front xb (cellsN (.slice lP x.ne lC) nilS (.slice p1 (i + 1) c1) (.slice p2 (i + 1) c2) nilS nilS nilS nilS nilS) (arr none 0 0 49 (fun _ => nilS)) (arr p1 c1 (i + 1) 52 (gGa ia')) (arr p2 c2 (i + 1) 33 (gBx ia' x)) (arr none 0 0 4 (fun _ => nilS)) (arr none 0 0 58 (fun _ => nilS)) (arr none 0 0 58 (fun _ => nilS)) (arr none 0 0 58 (fun _ => nilS)) (arr none 0 0 58 (fun _ => nilS)) ++ (insO ia x (List.range i) ++ S)), Φ2, inferInstance, cz, fun w G cx => ⟨_, _, _, Ctx.get cx 2 rfl rfl, ⟨by omega, by omega⟩, ?_⟩⟩
    clear cy cz hr2
    obtain ⟨pb, hpb, _⟩ := Ctx.bufCell cx 4 rfl (by simp)
    refine ptrK_intro pb 0 hpb fun w G cx => ⟨some ⟨a.gb, 0, none⟩, ?_, Br.intro (fun h => by cases h) (fun _ => ⟨by unfold I64; omega, front xb (cellsN (.slice lP x.ne lC) nilS (.slice p1 (i + 1) c1) (.slice p2 (i + 1) c2) nilS nilS nilS nilS nilS) (arr none 0 0 49 (fun _ => nilS)) (arr p1 c1 (i + 1) 52 (gGa ia')) (arr p2 c2 (i + 1) 33 (gBx ia' x)) (arr none 0 0 4 (fun _ => nilS)) (arr none 0 0 58 (fun _ => nilS)) (arr none 0 0 58 (fun _ => nilS)) (arr none 0 0 58 (fun _ => nilS)) (arr none 0 0 58 (fun _ => nilS)) ++ (insO ia' x (List.range (i + 1)) ++ S), Φ2, x.n - (i + 1), inferInstance, fun w G cx => ?_, ⟨i + 1, ia', p1, p2, c1, c2, by omega, hlt, rfl, rfl, rfl, fun j hj => ?_⟩, by omega⟩)⟩
    · have := Ctx.arrGet cx 4 rfl hpb (show i < i + 1 by omega)
      rw [this]
      unfold gGa
      rw [hiai]
    · rw [insO_snoc, insO_cong x hiaj, hiai, hxi]
      have c3 := Ctx.nobuf cx 57 7
      have c4 : Ctx W w ([.buf none 0 0 [] 57 7, gtB a ⟨D, [], 0, 0⟩, gtM a] ++ (front xb (cellsN (.slice lP x.ne lC) nilS (.slice p1 (i + 1) c1) (.slice p2 (i + 1) c2) nilS nilS nilS nilS nilS) (arr none 0 0 49 (fun _ => nilS)) (arr p1 c1 (i + 1) 52 (gGa ia')) (arr p2 c2 (i + 1) 33 (gBx ia' x)) (arr none 0 0 4 (fun _ => nilS)) (arr none 0 0 58 (fun _ => nilS)) (arr none 0 0 58 (fun _ => nilS)) (arr none 0 0 58 (fun _ => nilS)) (arr none 0 0 58 (fun _ => nilS)) ++ (insO ia x (List.range i) ++ (S ++ G)))) Φ2 := by
        refine Ctx.re c3 ?_
        simp only [List.append_assoc, List.cons_append, List.nil_append]
      have c5 := c4.perm ((List.Perm.append_right _ (List.perm_append_comm (l₁ := [Own.buf none 0 0 [] 57 7]) (l₂ := [gtB a ⟨D, [], 0, 0⟩, gtM a]))).trans perm_new)
      refine Ctx.re c5 ?_
      simp only [List.append_assoc, List.cons_append, List.nil_append]
      rfl
    · by_cases hji : j = i
      · subst hji; rw [hiai, hxi]; exact ha
      · rw [hiaj j (by omega)]; exact hgt j (by omega)
  have hge : i = x.n := by have := of_decide_eq_false hge; omega
  subst hge
  obtain ⟨N, hN⟩ : ∃ N, N = x.n := ⟨_, rfl⟩
  refine ⟨⟨by omega, by omega, by omega, by omega⟩, fun rb w G cx => ⟨Ctx.can cx 1 rfl (by show 4 + 1 ≤ 11; omega), fun w' hw' => ?_⟩⟩
  rw [Int.toNat_natCast] at cx hw'
  have cz := Ctx.put cx 1 hw' rfl
  have crp : (List.replicate x.n (Value.bool false)) = (List.range x.n).map (gRp x) := by
    apply List.ext_getElem (by simp)
    intro j h1 h2
    rw [List.getElem_replicate, List.getElem_map, List.getElem_range]
    unfold gRp
    rw [hF.ins j (by simpa using h1)]
  rw [crp] at cz
  have cz := Ctx.toBuf cz 0 x.n 1 rfl (by simp) (by show x.n ≤ _; unfold maxLen; omega)
  have cz := (dropAt 5 cz).perm (move_to 4)
  have hn0 : ∀ {t : TypeId} {g g' : Nat → Value}, arr none 0 0 t g = arr none 0 0 t g' := rfl
  clear hw' cx crp
  -- the edges
  refine ⟨front xb (cellsN (.slice lP x.ne lC) nilS (.slice gap x.n gac) (.slice bxp x.n bxc) (.slice (some ⟨rb, 0, none⟩) x.n x.n) nilS nilS nilS nilS) (arr none 0 0 49 (fun _ => nilS)) (arr gap gac x.n 52 (gGa ia)) (arr bxp bxc x.n 33 (gBx ia x)) (arr (some ⟨rb, 0, none⟩) x.n x.n 4 (gRp x)) (arr none 0 0 58 (fun _ => nilS)) (arr none 0 0 58 (fun _ => nilS)) (arr none 0 0 58 (fun _ => nilS)) (arr none 0 0 58 (fun _ => nilS)) ++ (insO ia x (List.range x.n) ++ S), Φ1, inferInstance, cz, ?_⟩
  clear cz
  refine exI_mk (fun ni R' Φ' m => ∃ (k : Nat) (ea : Nat → EA) (chp mdp bdp hdp fyp : Option Addr) (chc mdc bdc hdc fyc : Nat), ni = k ∧ k ≤ x.ne ∧ R' = front xb (cellsN (.slice lP x.ne lC) (.slice chp k chc) (.slice gap x.n gac) (.slice bxp x.n bxc) (.slice (some ⟨rb, 0, none⟩) x.n x.n) (.slice mdp k mdc) (.slice bdp k bdc) (.slice hdp k hdc) (.slice fyp k fyc)) (arr chp chc k 49 (gCh ea)) (arr gap gac x.n 52 (gGa ia)) (arr bxp bxc x.n 33 (gBx ia x)) (arr (some ⟨rb, 0, none⟩) x.n x.n 4 (gRp x)) (arr mdp mdc k 58 (gMd ea x)) (arr bdp bdc k 58 (gBd ea x)) (arr hdp hdc k 58 (gHd ea x)) (arr fyp fyc k 58 (gFy ea x)) ++ (edsO ea x (List.range k) ++ (insO ia x (List.range x.n) ++ S)) ∧ Φ' = Φ1 ∧ m = x.ne - k ∧ ∀ j, j < k → ChP (ea j).ch (x.eds j).q (x.eds j).sent)
    ⟨⟨_, Φ1, _, inferInstance, fun w G cx => cx, 0, fun _ => ⟨⟨0, [], 0⟩, none, 0, none, 0, none, 0, none, 0⟩, none, none, none, none, none, 0, 0, 0, 0, 0, rfl, Nat.zero_le _, rfl, rfl, rfl, fun j hj => by omega⟩, ?_⟩
  rintro ni R3 Φ3 m _ ⟨k, ea, chp, mdp, bdp, hdp, fyp, chc, mdc, bdc, hdc, fyc, rfl, hkn, rfl, rfl, rfl, hch⟩
  refine Br.intro (fun hlt => ?_) (fun hge => fun w G cx => ?_)
  rotate_left
  · have hge : k = x.ne := by have := of_decide_eq_false hge; omega
    subst hge
    refine hk ⟨xb, eg, eo, lP, lC, chp, chc, gap, gac, bxp, bxc, some ⟨rb, 0, none⟩, x.n, mdp, mdc, bdp, bdc, hdp, hdc, fyp, fyc⟩ ea ia w ⟨hptr, hrow⟩ ⟨hch, hgt⟩ ?_
    refine Ctx.re cx.left ?_
    unfold lay hd netC
    rw [hF.kind, hF.num]
    simp only [List.append_assoc]
  have hlt : k < x.ne := by have := of_decide_eq_true hlt; omega
  have hxk := hF.eds k hlt
  refine ⟨[.blk xb (cellsN (.slice lP x.ne lC) (.slice chp k chc) (.slice gap x.n gac) (.slice bxp x.n bxc) (.slice (some ⟨rb, 0, none⟩) x.n x.n) (.slice mdp k mdc) (.slice bdp k bdc) (.slice hdp k hdc) (.slice fyp k fyc)) 40], tru, inferInstance, fun w F cx => cut_to cx (.cons_cons _ (List.nil_sublist _)), _, _, _, fun w F cx => ⟨_, _, _, cx.get 0 rfl rfl, rfl⟩, fun w G cx => New_use cx fun cb w cx => ?_⟩
  refine ⟨some ⟨cb, 0, none⟩, rfl, chB ⟨cb, chan0, 0⟩ :: (front xb (cellsN (.slice lP x.ne lC) (.slice chp k chc) (.slice gap x.n gac) (.slice bxp x.n bxc) (.slice (some ⟨rb, 0, none⟩) x.n x.n) (.slice mdp k mdc) (.slice bdp k bdc) (.slice hdp k hdc) (.slice fyp k fyc)) (arr chp chc k 49 (gCh ea)) (arr gap gac x.n 52 (gGa ia)) (arr bxp bxc x.n 33 (gBx ia x)) (arr (some ⟨rb, 0, none⟩) x.n x.n 4 (gRp x)) (arr mdp mdc k 58 (gMd ea x)) (arr bdp bdc k 58 (gBd ea x)) (arr hdp hdc k 58 (gHd ea x)) (arr fyp fyc k 58 (gFy ea x)) ++ (edsO ea x (List.range k) ++ (insO ia x (List.range x.n) ++ S))), Φ3, inferInstance, cx, fun w F cx => cut_to cx (.cons _ (.cons_cons _ (List.nil_sublist _))), fun kb => ⟨fun w F cx => cut_to cx (.cons _ (.cons _ (.cons_cons _ (List.nil_sublist _)))), fun w F cx => ?_⟩⟩
  obtain ⟨ea', hea'⟩ : ∃ ea', ea' = upd ea k ⟨⟨cb, chan0, 0⟩, none, 0, none, 0, none, 0, none, 0⟩ := ⟨_, rfl⟩
  have hei : ea' k = ⟨⟨cb, chan0, 0⟩, none, 0, none, 0, none, 0, none, 0⟩ := by rw [hea', upd_self]
  have hej : ∀ j, j < k → ea' j = ea j := fun j hj => by rw [hea', upd_ne (by omega)]
  obtain ⟨chp', chc', w1, hr1, cy⟩ := Ctx.arrPush (ts := 34) (ty := 34) (ck := #[false, false]) (bytes := 8) (g' := gCh ea') 2 cx rfl (by kernel_rfl) (by decide) rfl (by omega) (fun j hj => by unfold gCh; rw [hej j hj]) (by unfold gCh; rw [hei])
  refine ⟨chp', _, chc', w1, hr1, chB ⟨cb, chan0, 0⟩ :: (front xb (cellsN (.slice lP x.ne lC) (.slice chp k chc) (.slice gap x.n gac) (.slice bxp x.n bxc) (.slice (some ⟨rb, 0, none⟩) x.n x.n) (.slice mdp k mdc) (.slice bdp k bdc) (.slice hdp k hdc) (.slice fyp k fyc)) (arr chp' chc' (k + 1) 49 (gCh ea')) (arr gap gac x.n 52 (gGa ia)) (arr bxp bxc x.n 33 (gBx ia x)) (arr (some ⟨rb, 0, none⟩) x.n x.n 4 (gRp x)) (arr mdp mdc k 58 (gMd ea x)) (arr bdp bdc k 58 (gBd ea x)) (arr hdp hdc k 58 (gHd ea x)) (arr fyp fyc k 58 (gFy ea x)) ++ (edsO ea x (List.range k) ++ (insO ia x (List.range x.n) ++ S))), Φ3, inferInstance, cy, fun w F cx => cut_to cx (.cons _ (.cons_cons _ (List.nil_sublist _))), fun w G cx => ⟨Ctx.can cx 1 rfl (by show 1 + 1 ≤ 11; omega), fun w' hw' => ?_⟩⟩
  have cz := Ctx.put cx 1 hw' rfl
  refine ⟨chB ⟨cb, chan0, 0⟩ :: (front xb (cellsN (.slice lP x.ne lC) (.slice chp' (k + 1) chc') (.slice gap x.n gac) (.slice bxp x.n bxc) (.slice (some ⟨rb, 0, none⟩) x.n x.n) (.slice mdp k mdc) (.slice bdp k bdc) (.slice hdp k hdc) (.slice fyp k fyc)) (arr chp' chc' (k + 1) 49 (gCh ea')) (arr gap gac x.n 52 (gGa ia)) (arr bxp bxc x.n 33 (gBx ia x)) (arr (some ⟨rb, 0, none⟩) x.n x.n 4 (gRp x)) (arr mdp mdc k 58 (gMd ea x)) (arr bdp bdc k 58 (gBd ea x)) (arr hdp hdc k 58 (gHd ea x)) (arr fyp fyc k 58 (gFy ea x)) ++ (edsO ea x (List.range k) ++ (insO ia x (List.range x.n) ++ S))), Φ3, inferInstance, cz, fun w G cx => ⟨_, _, _, Ctx.get cx 1 rfl rfl, fun kb w F cx => ?_⟩⟩
  clear cy cz hr1
  obtain ⟨mdp', mdc', w1, hr1, cy⟩ := Ctx.arrPush (ts := 38) (ty := 38) (ck := #[false, false]) (bytes := 24) (g' := gMd ea' x) 6 cx rfl (by kernel_rfl) (by decide) rfl (by omega) (fun j hj => by unfold gMd; rw [hej j hj]) (by unfold gMd; rw [hei, hxk]; rfl)
  refine ⟨mdp', _, mdc', w1, hr1, chB ⟨cb, chan0, 0⟩ :: (front xb (cellsN (.slice lP x.ne lC) (.slice chp' (k + 1) chc') (.slice gap x.n gac) (.slice bxp x.n bxc) (.slice (some ⟨rb, 0, none⟩) x.n x.n) (.slice mdp k mdc) (.slice bdp k bdc) (.slice hdp k hdc) (.slice fyp k fyc)) (arr chp' chc' (k + 1) 49 (gCh ea')) (arr gap gac x.n 52 (gGa ia)) (arr bxp bxc x.n 33 (gBx ia x)) (arr (some ⟨rb, 0, none⟩) x.n x.n 4 (gRp x)) (arr mdp' mdc' (k + 1) 58 (gMd ea' x)) (arr bdp bdc k 58 (gBd ea x)) (arr hdp hdc k 58 (gHd ea x)) (arr fyp fyc k 58 (gFy ea x)) ++ (edsO ea x (List.range k) ++ (insO ia x (List.range x.n) ++ S))), Φ3, inferInstance, cy, fun w G cx => ⟨Ctx.can cx 1 rfl (by show 5 + 1 ≤ 11; omega), fun w' hw' => ?_⟩⟩
  have cz := Ctx.put cx 1 hw' rfl
  refine ⟨chB ⟨cb, chan0, 0⟩ :: (front xb (cellsN (.slice lP x.ne lC) (.slice chp' (k + 1) chc') (.slice gap x.n gac) (.slice bxp x.n bxc) (.slice (some ⟨rb, 0, none⟩) x.n x.n) (.slice mdp' (k + 1) mdc') (.slice bdp k bdc) (.slice hdp k hdc) (.slice fyp k fyc)) (arr chp' chc' (k + 1) 49 (gCh ea')) (arr gap gac x.n 52 (gGa ia)) (arr bxp bxc x.n 33 (gBx ia x)) (arr (some ⟨rb, 0, none⟩) x.n x.n 4 (gRp x)) (arr mdp' mdc' (k + 1) 58 (gMd ea' x)) (arr bdp bdc k 58 (gBd ea x)) (arr hdp hdc k 58 (gHd ea x)) (arr fyp fyc k 58 (gFy ea x)) ++ (edsO ea x (List.range k) ++ (insO ia x (List.range x.n) ++ S))), Φ3, inferInstance, cz, fun w G cx => ⟨_, _, _, Ctx.get cx 1 rfl rfl, fun kb w F cx => ?_⟩⟩
  clear cy cz hr1
  obtain ⟨bdp', bdc', w1, hr1, cy⟩ := Ctx.arrPush (ts := 38) (ty := 38) (ck := #[false, false]) (bytes := 24) (g' := gBd ea' x) 7 cx rfl (by kernel_rfl) (by decide) rfl (by omega) (fun j hj => by unfold gBd; rw [hej j hj]) (by unfold gBd; rw [hei, hxk]; rfl)
  refine ⟨bdp', _, bdc', w1, hr1, chB ⟨cb, chan0, 0⟩ :: (front xb (cellsN (.slice lP x.ne lC) (.slice chp' (k + 1) chc') (.slice gap x.n gac) (.slice bxp x.n bxc) (.slice (some ⟨rb, 0, none⟩) x.n x.n) (.slice mdp' (k + 1) mdc') (.slice bdp k bdc) (.slice hdp k hdc) (.slice fyp k fyc)) (arr chp' chc' (k + 1) 49 (gCh ea')) (arr gap gac x.n 52 (gGa ia)) (arr bxp bxc x.n 33 (gBx ia x)) (arr (some ⟨rb, 0, none⟩) x.n x.n 4 (gRp x)) (arr mdp' mdc' (k + 1) 58 (gMd ea' x)) (arr bdp' bdc' (k + 1) 58 (gBd ea' x)) (arr hdp hdc k 58 (gHd ea x)) (arr fyp fyc k 58 (gFy ea x)) ++ (edsO ea x (List.range k) ++ (insO ia x (List.range x.n) ++ S))), Φ3, inferInstance, cy, fun w G cx => ⟨Ctx.can cx 1 rfl (by show 6 + 1 ≤ 11; omega), fun w' hw' => ?_⟩⟩
  have cz := Ctx.put cx 1 hw' rfl
  refine ⟨chB ⟨cb, chan0, 0⟩ :: (front xb (cellsN (.slice lP x.ne lC) (.slice chp' (k + 1) chc') (.slice gap x.n gac) (.slice bxp x.n bxc) (.slice (some ⟨rb, 0, none⟩) x.n x.n) (.slice mdp' (k + 1) mdc') (.slice bdp' (k + 1) bdc') (.slice hdp k hdc) (.slice fyp k fyc)) (arr chp' chc' (k + 1) 49 (gCh ea')) (arr gap gac x.n 52 (gGa ia)) (arr bxp bxc x.n 33 (gBx ia x)) (arr (some ⟨rb, 0, none⟩) x.n x.n 4 (gRp x)) (arr mdp' mdc' (k + 1) 58 (gMd ea' x)) (arr bdp' bdc' (k + 1) 58 (gBd ea' x)) (arr hdp hdc k 58 (gHd ea x)) (arr fyp fyc k 58 (gFy ea x)) ++ (edsO ea x (List.range k) ++ (insO ia x (List.range x.n) ++ S))), Φ3, inferInstance, cz, fun w G cx => ⟨_, _, _, Ctx.get cx 1 rfl rfl, fun kb w F cx => ?_⟩⟩
  clear cy cz hr1
  obtain ⟨hdp', hdc', w1, hr1, cy⟩ := Ctx.arrPush (ts := 38) (ty := 38) (ck := #[false, false]) (bytes := 24) (g' := gHd ea' x) 8 cx rfl (by kernel_rfl) (by decide) rfl (by omega) (fun j hj => by unfold gHd; rw [hej j hj]) (by unfold gHd; rw [hei, hxk]; rfl)
  refine ⟨hdp', _, hdc', w1, hr1, chB ⟨cb, chan0, 0⟩ :: (front xb (cellsN (.slice lP x.ne lC) (.slice chp' (k + 1) chc') (.slice gap x.n gac) (.slice bxp x.n bxc) (.slice (some ⟨rb, 0, none⟩) x.n x.n) (.slice mdp' (k + 1) mdc') (.slice bdp' (k + 1) bdc') (.slice hdp k hdc) (.slice fyp k fyc)) (arr chp' chc' (k + 1) 49 (gCh ea')) (arr gap gac x.n 52 (gGa ia)) (arr bxp bxc x.n 33 (gBx ia x)) (arr (some ⟨rb, 0, none⟩) x.n x.n 4 (gRp x)) (arr mdp' mdc' (k + 1) 58 (gMd ea' x)) (arr bdp' bdc' (k + 1) 58 (gBd ea' x)) (arr hdp' hdc' (k + 1) 58 (gHd ea' x)) (arr fyp fyc k 58 (gFy ea x)) ++ (edsO ea x (List.range k) ++ (insO ia x (List.range x.n) ++ S))), Φ3, inferInstance, cy, fun w G cx => ⟨Ctx.can cx 1 rfl (by show 7 + 1 ≤ 11; omega), fun w' hw' => ?_⟩⟩
  have cz := Ctx.put cx 1 hw' rfl
  refine ⟨chB ⟨cb, chan0, 0⟩ :: (front xb (cellsN (.slice lP x.ne lC) (.slice chp' (k + 1) chc') (.slice gap x.n gac) (.slice bxp x.n bxc) (.slice (some ⟨rb, 0, none⟩) x.n x.n) (.slice mdp' (k + 1) mdc') (.slice bdp' (k + 1) bdc') (.slice hdp' (k + 1) hdc') (.slice fyp k fyc)) (arr chp' chc' (k + 1) 49 (gCh ea')) (arr gap gac x.n 52 (gGa ia)) (arr bxp bxc x.n 33 (gBx ia x)) (arr (some ⟨rb, 0, none⟩) x.n x.n 4 (gRp x)) (arr mdp' mdc' (k + 1) 58 (gMd ea' x)) (arr bdp' bdc' (k + 1) 58 (gBd ea' x)) (arr hdp' hdc' (k + 1) 58 (gHd ea' x)) (arr fyp fyc k 58 (gFy ea x)) ++ (edsO ea x (List.range k) ++ (insO ia x (List.range x.n) ++ S))), Φ3, inferInstance, cz, fun w G cx => ⟨_, _, _, Ctx.get cx 1 rfl rfl, fun kb w F cx => ?_⟩⟩
  clear cy cz hr1
  obtain ⟨fyp', fyc', w1, hr1, cy⟩ := Ctx.arrPush (ts := 38) (ty := 38) (ck := #[false, false]) (bytes := 24) (g' := gFy ea' x) 9 cx rfl (by kernel_rfl) (by decide) rfl (by omega) (fun j hj => by unfold gFy; rw [hej j hj]) (by unfold gFy; rw [hei, hxk]; rfl)
  refine ⟨fyp', _, fyc', w1, hr1, chB ⟨cb, chan0, 0⟩ :: (front xb (cellsN (.slice lP x.ne lC) (.slice chp' (k + 1) chc') (.slice gap x.n gac) (.slice bxp x.n bxc) (.slice (some ⟨rb, 0, none⟩) x.n x.n) (.slice mdp' (k + 1) mdc') (.slice bdp' (k + 1) bdc') (.slice hdp' (k + 1) hdc') (.slice fyp k fyc)) (arr chp' chc' (k + 1) 49 (gCh ea')) (arr gap gac x.n 52 (gGa ia)) (arr bxp bxc x.n 33 (gBx ia x)) (arr (some ⟨rb, 0, none⟩) x.n x.n 4 (gRp x)) (arr mdp' mdc' (k + 1) 58 (gMd ea' x)) (arr bdp' bdc' (k + 1) 58 (gBd ea' x)) (arr hdp' hdc' (k + 1) 58 (gHd ea' x)) (arr fyp' fyc' (k + 1) 58 (gFy ea' x)) ++ (edsO ea x (List.range k) ++ (insO ia x (List.range x.n) ++ S))), Φ3, inferInstance, cy, fun w G cx => ⟨Ctx.can cx 1 rfl (by show 8 + 1 ≤ 11; omega), fun w' hw' => ?_⟩⟩
  have cz := Ctx.put cx 1 hw' rfl
  refine ⟨chB ⟨cb, chan0, 0⟩ :: (front xb (cellsN (.slice lP x.ne lC) (.slice chp' (k + 1) chc') (.slice gap x.n gac) (.slice bxp x.n bxc) (.slice (some ⟨rb, 0, none⟩) x.n x.n) (.slice mdp' (k + 1) mdc') (.slice bdp' (k + 1) bdc') (.slice hdp' (k + 1) hdc') (.slice fyp' (k + 1) fyc')) (arr chp' chc' (k + 1) 49 (gCh ea')) (arr gap gac x.n 52 (gGa ia)) (arr bxp bxc x.n 33 (gBx ia x)) (arr (some ⟨rb, 0, none⟩) x.n x.n 4 (gRp x)) (arr mdp' mdc' (k + 1) 58 (gMd ea' x)) (arr bdp' bdc' (k + 1) 58 (gBd ea' x)) (arr hdp' hdc' (k + 1) 58 (gHd ea' x)) (arr fyp' fyc' (k + 1) 58 (gFy ea' x)) ++ (edsO ea x (List.range k) ++ (insO ia x (List.range x.n) ++ S))), Φ3, inferInstance, cz, fun w G cx => ⟨_, _, _, Ctx.get cx 1 rfl rfl, ⟨by omega, by omega⟩, ?_⟩⟩
  clear cy cz hr1
  obtain ⟨pb, hpb, _⟩ := Ctx.bufCell cx 2 rfl (by simp)
  refine ptrK_intro pb 0 hpb fun w G cx => ⟨some ⟨cb, 0, none⟩, ?_, Br.intro (fun h => by cases h) (fun _ => ⟨by unfold I64; omega, front xb (cellsN (.slice lP x.ne lC) (.slice chp' (k + 1) chc') (.slice gap x.n gac) (.slice bxp x.n bxc) (.slice (some ⟨rb, 0, none⟩) x.n x.n) (.slice mdp' (k + 1) mdc') (.slice bdp' (k + 1) bdc') (.slice hdp' (k + 1) hdc') (.slice fyp' (k + 1) fyc')) (arr chp' chc' (k + 1) 49 (gCh ea')) (arr gap gac x.n 52 (gGa ia)) (arr bxp bxc x.n 33 (gBx ia x)) (arr (some ⟨rb, 0, none⟩) x.n x.n 4 (gRp x)) (arr mdp' mdc' (k + 1) 58 (gMd ea' x)) (arr bdp' bdc' (k + 1) 58 (gBd ea' x)) (arr hdp' hdc' (k + 1) 58 (gHd ea' x)) (arr fyp' fyc' (k + 1) 58 (gFy ea' x)) ++ (edsO ea' x (List.range (k + 1)) ++ (insO ia x (List.range x.n) ++ S)), Φ3, x.ne - (k + 1), inferInstance, fun w G cx => ?_, ⟨k + 1, ea', chp', mdp', bdp', hdp', fyp', chc', mdc', bdc', hdc', fyc', by omega, hlt, rfl, rfl, rfl, fun j hj => ?_⟩, by omega⟩)⟩
  · have := Ctx.arrGet cx 2 rfl hpb (show k < k + 1 by omega)
    rw [this]
    unfold gCh
    rw [hei]
  · rw [edsO_snoc, edsO_cong x hej, hei, hxk]
    have c3 := (((Ctx.nobuf cx 3 1).nobuf 3 1).nobuf 3 1).nobuf 3 1
    have c4 : Ctx W w ([.buf none 0 0 [] 3 1, .buf none 0 0 [] 3 1, .buf none 0 0 [] 3 1, .buf none 0 0 [] 3 1, chB ⟨cb, chan0, 0⟩] ++ (front xb (cellsN (.slice lP x.ne lC) (.slice chp' (k + 1) chc') (.slice gap x.n gac) (.slice bxp x.n bxc) (.slice (some ⟨rb, 0, none⟩) x.n x.n) (.slice mdp' (k + 1) mdc') (.slice bdp' (k + 1) bdc') (.slice hdp' (k + 1) hdc') (.slice fyp' (k + 1) fyc')) (arr chp' chc' (k + 1) 49 (gCh ea')) (arr gap gac x.n 52 (gGa ia)) (arr bxp bxc x.n 33 (gBx ia x)) (arr (some ⟨rb, 0, none⟩) x.n x.n 4 (gRp x)) (arr mdp' mdc' (k + 1) 58 (gMd ea' x)) (arr bdp' bdc' (k + 1) 58 (gBd ea' x)) (arr hdp' hdc' (k + 1) 58 (gHd ea' x)) (arr fyp' fyc' (k + 1) 58 (gFy ea' x)) ++ (edsO ea x (List.range k) ++ (insO ia x (List.range x.n) ++ (S ++ G))))) Φ3 := by
      refine Ctx.re c3 ?_
      simp only [List.append_assoc, List.cons_append, List.nil_append]
    have c5 := c4.perm ((List.Perm.append_right _ (List.perm_append_comm (l₁ := [Own.buf none 0 0 [] 3 1, .buf none 0 0 [] 3 1, .buf none 0 0 [] 3 1, .buf none 0 0 [] 3 1]) (l₂ := [chB ⟨cb, chan0, 0⟩]))).trans perm_new)
    refine Ctx.re c5 ?_
    simp only [List.append_assoc, List.cons_append, List.nil_append]
    rfl
  · by_cases hjk : j = k
    · subst hjk; rw [hei, hxk]; exact ch_new cb
    · rw [hej j (by omega)]; exact hch j (by omega)
end
end Go.Proofs.Ytmlnockcmdameaa
end

/-
  CheckpointCut, walked.
-/
section
set_option linter.unusedVariables false
set_option linter.unusedSimpArgs false
namespace Go.Proofs.Ytmlnockcmdameaa
open Go.Vc


structure EgD where
  src : Int
  dst : Int
instance : Gv EgD := Gv.via (β := Int × Int) (fun x => (x.src, x.dst)) (fun y => ⟨y.1, y.2⟩) (fun _ => rfl)
theorem sl_eg {M : List Nat} {w : World} {b o : Nat} {l : List EgD} (h : Sl M w (some ⟨b, o, none⟩) l) {i : Nat} (hi : i < l.length) : RowAt w b (o + i * 2) [.int .i64 l[i].src, .int .i64 l[i].dst] := by
  obtain ⟨b', o', cs, e, _, h3, _, _, rfl, ⟨rfl, _⟩, rfl, _⟩ := h i hi
  cases e
  exact h3
structure OpN where
  op : Int
  who : Int
  n : Int
instance : Gv OpN := Gv.via (β := Int × Int × Int) (fun x => (x.op, x.who, x.n)) (fun y => ⟨y.1, y.2.1, y.2.2⟩) (fun _ => rfl)
theorem sl_opn {M : List Nat} {w : World} {b o : Nat} {l : List OpN} (h : Sl M w (some ⟨b, o, none⟩) l) {i : Nat} (hi : i < l.length) : RowAt w b (o + i * 3) [.int .i64 l[i].op, .int .i64 l[i].who, .int .i64 l[i].n] := by
  obtain ⟨b', o', cs, e, _, h3, _, _, rfl, ⟨rfl, _⟩, _, _, rfl, ⟨rfl, _⟩, rfl, _⟩ := h i hi
  cases e
  exact h3

def andZ (a m : Int) : Int := IntKind.i64.wrap (BitVec.ofInt 64 a &&& BitVec.ofInt 64 m).toNat
theorem and_run (a m : Int) (w : World) : Sem.run Try.prog (binOp BinOp.and 3 (.int .i64 a) (.int .i64 m)) w = .ok (.int .i64 (andZ a m)) w := rfl
theorem and1 (a : Int) : andZ a 1 = 0 ∨ andZ a 1 = 1 := by
  unfold andZ
  have h : (BitVec.ofInt 64 a &&& BitVec.ofInt 64 1).toNat ≤ 1 := by
    rw [BitVec.toNat_and]
    have e : (BitVec.ofInt 64 1).toNat = 1 := by decide
    rw [e]
    exact Nat.and_le_right
  generalize (BitVec.ofInt 64 a &&& BitVec.ofInt 64 1).toNat = k at h
  have h2 : k = 0 ∨ k = 1 := by omega
  rcases h2 with rfl | rfl
  · exact .inl (by decide)
  · exact .inr (by decide)

/-! ### the net at first -/
def net1 (n : Nat) (l : List EgD) : NtD := ⟨n, l.length, fun _ => ⟨⟨0, [], 0, 0⟩, [], false⟩, fun k => ⟨(l.getD k ⟨0, 0⟩).src.toNat, (l.getD k ⟨0, 0⟩).dst.toNat, [], 0, [], [], [], []⟩, 0, 0⟩
def net0 (n : Nat) (l : List EgD) : NtD := { net1 n l with ins := fun i => ⟨⟨degK (net1 n l) i l.length, [], 0, 0⟩, [], false⟩ }
theorem net_same (n : Nat) (l : List EgD) : SameE (net1 n l) (net0 n l) := ⟨rfl, rfl, fun _ => rfl, fun _ => rfl⟩
theorem net_fresh (n : Nat) (l : List EgD) : Fresh0 (net0 n l) := by
  refine ⟨rfl, rfl, fun i hi => ?_, fun k hk => rfl⟩
  rw [degK_same (net_same n l)]
  rfl
def EgOk (n : Nat) (l : List EgD) : Prop := ∀ k, (hk : k < l.length) → 0 ≤ l[k].src ∧ l[k].src < l[k].dst ∧ l[k].dst < n
theorem net_eg {n : Nat} {l : List EgD} (h : EgOk n l) {k : Nat} (hk : k < l.length) : (((net0 n l).eds k).src : Int) = l[k].src ∧ (((net0 n l).eds k).dst : Int) = l[k].dst := by
  have h1 := h k hk
  show (((l.getD k ⟨0, 0⟩).src.toNat : Nat) : Int) = _ ∧ (((l.getD k ⟨0, 0⟩).dst.toNat : Nat) : Int) = _
  have e : l.getD k ⟨0, 0⟩ = l[k] := by rw [List.getD_eq_getElem?_getD, List.getElem?_eq_getElem hk]; rfl
  rw [e]
  omega
theorem net_good {n : Nat} {l : List EgD} (h1 : 1 ≤ n) (h5 : n ≤ 5) (hl : l.length ≤ 6) (h : EgOk n l) : Good (net0 n l) := by
  have hst : ∀ k, stream (net0 n l) k = [] := fun k => rfl
  refine ⟨⟨h1, h5, hl, fun k hk => ?_, fun i hi => ?_, .inl rfl, fun k hk => Nat.zero_le _, (fun k hk m hm => by rw [hst] at hm; cases hm), fun i hi y hy => (by cases hy), fun i hi => Nat.zero_le _, fun k hk => Nat.zero_le _, fun i hi => ⟨List.nodup_nil, fun j hj => (by cases hj), fun _ => rfl⟩⟩, .inl ⟨rfl, fun k hk => by rw [hst]; rfl, fun i hi => ⟨rfl, rfl⟩⟩⟩
  · obtain ⟨g1, g2⟩ := net_eg h hk
    have g3 := h k hk
    show _ ∧ _ < n
    omega
  · rw [degK_same (net_same n l)]; rfl
theorem net_lens (n : Nat) (l : List EgD) (L : Nat) : Lens (net0 n l) L := fun k hk => ⟨Nat.zero_le _, Nat.zero_le _, Nat.zero_le _, Nat.zero_le _⟩

/-- what is known between the operations -/
structure At (Φ : PW) (A : NA) (x0 y : NtD) (ea : Nat → EA) (ia : Nat → IA) (L : Nat) : Prop where
  ed : EdF Φ A x0
  np : NP ea ia y
  good : Good y
  same : SameE x0 y
  lens : Lens y L

section
variable {W w : World} {S G : List Own} {Φ : PW} {A : NA} {x0 y : NtD} {ea : Nat → EA} {ia : Nat → IA} {L : Nat}

theorem At.dri (h : At Φ A x0 y ea ia L) (hL : L ≤ 90000) : DrI y y := ⟨h.good, .refl y, L, h.lens, by have := todo_le h.good; omega⟩
theorem At.edy (h : At Φ A x0 y ea ia L) : EdF Φ A y := h.same.edF h.ed

theorem At.take [Stable Φ] (h : At Φ A x0 y ea ia L) (hL : L ≤ 90000) {e : Nat} (he : e < y.ne) (c : Ctx W w ((lay A ea ia y ++ S) ++ G) Φ) {K : Ending → World → Prop}
    (hk : ∀ z ea' ia' w' b, At Φ A x0 z ea' ia' (L + 1) → Ctx W w' ((lay A ea' ia' z ++ S) ++ G) Φ → K (.returned (.tuple #[.bool b, .bool true])) w') : Calls Try.prog F.erratalaw39_net_take #[.pointer (some ⟨A.xb, 0, none⟩), .int .i64 e] w K := by
  have ht := take_ok h.good he
  refine take_go h.edy (h.dri hL) he h.np c fun ea' ia' w' h1 h2 => ?_
  rw [ht.ok]
  exact hk _ ea' ia' w' _ ⟨h.ed, h1, ht.good, h.same.trans (same_take y e), ht.lens L h.lens⟩ h2
theorem At.flush [Stable Φ] (h : At Φ A x0 y ea ia L) (hL : L ≤ 90000) {i : Nat} (hi : i < y.n) (c : Ctx W w ((lay A ea ia y ++ S) ++ G) Φ) {K : Ending → World → Prop}
    (hk : ∀ z ea' ia' w' b, At Φ A x0 z ea' ia' (L + 1) → Ctx W w' ((lay A ea' ia' z ++ S) ++ G) Φ → K (.returned (.bool b)) w') : Calls Try.prog F.erratalaw39_net_flush #[.pointer (some ⟨A.xb, 0, none⟩), .int .i64 i] w K := by
  refine flush_go h.edy (h.dri hL) hi h.np c (fun _ w' cx => hk y ea ia w' false ⟨h.ed, h.np, h.good, h.same, h.lens.more (by omega)⟩ cx) fun z hz ea' ia' w' h1 cx => hk z ea' ia' w' true ⟨h.ed, h1, good_flush hi hz h.good, h.same.trans (flush_gts hz).same, flush_lens hz h.lens⟩ cx
theorem At.prod [Stable Φ] (h : At Φ A x0 y ea ia L) (hL : L ≤ 90000) {i : Nat} (hi : i < y.n) {m : MsgL} (hm : Fit m) (hk2 : m.kind = 2) (hb : (y.ins i).box = []) (c : Ctx W w ((lay A ea ia y ++ S) ++ G) Φ) {K : Ending → World → Prop}
    (hk : ∀ z ea' ia' w', At Φ A x0 z ea' ia' (L + 1) → Ctx W w' ((lay A ea' ia' z ++ S) ++ G) Φ → K (.returned (.tuple #[])) w') : Calls Try.prog F.erratalaw39_net_produce #[.pointer (some ⟨A.xb, 0, none⟩), .int .i64 i, m.v] w K := by
  have nb := (h.dri hL).nb
  refine produce_use (S := S ++ G) h.edy nb.ne hi m h.np (nb.box i hi) (fun k hk => by have := nb.made k hk; omega) (by rw [← List.append_assoc]; exact c) fun ea' ia' w' h1 h2 => ?_
  exact hk _ ea' ia' w' ⟨h.ed, h1, good_prod hi hm hk2 hb h.good, h.same.trans (same_prodS y i m), prod_lens h.lens⟩ (by rw [List.append_assoc]; exact h2)
theorem At.start [Stable Φ] (h : At Φ A x0 y ea ia L) (h16 : 16 ≤ L) (hnum : y.num = 0) {number kind : Int} (hn : 1 ≤ number ∧ number ≤ 1000) (hkd : kind = 0 ∨ kind = 1) (c : Ctx W w ((lay A ea ia y ++ S) ++ G) Φ) {K : Ending → World → Prop}
    (hk : ∀ z ea' ia' w', At Φ A x0 z ea' ia' (L + 1) → Ctx W w' ((lay A ea' ia' z ++ S) ++ G) Φ → K (.returned (.tuple #[])) w') : Calls Try.prog F.erratalaw39_net_start #[.pointer (some ⟨A.xb, 0, none⟩), .int .i64 number, .int .i64 kind] w K := by
  have cm := h.good.1
  have hidle : Idle y := by
    rcases h.good.2 with g | g
    · exact g
    · have := g.num.1; omega
  refine start_use (S := S ++ G) h.edy (by have := cm.ne6; omega) (by have := cm.n5; omega) (fun k hk => by have := cm.lt k hk; omega) (fun i hi => ⟨by have := box_le h.good hi; omega, fun v hv => (cm.item i hi v hv).1⟩) number kind hkd h.np (by rw [← List.append_assoc]; exact c) fun ea' ia' w' h1 h2 => ?_
  have hs : SameE y (startS y number kind) := by
    unfold startS
    have hs0 : SameE y ({ y with num := number, kind := kind } : NtD) := ⟨rfl, rfl, fun _ => rfl, fun _ => rfl⟩
    exact ((hs0.trans (same_clear _)).trans (same_madeK _ _)).trans (same_srcRep _ _)
  exact hk _ ea' ia' w' ⟨h.ed, h1, good_start cm hidle hn hkd, h.same.trans hs, (start_lens h.good hidle hn hkd h.lens h16).more (by omega)⟩ (by rw [List.append_assoc]; exact h2)

theorem modN {a : Int} {n : Nat} (h : 1 ≤ n) : ∃ i : Nat, modS a (n : Int) = i ∧ i < n := by
  obtain ⟨h1, h2⟩ := modS_range a (m := (n : Int)) (by omega)
  exact ⟨(modS a n).toNat, by omega, by omega⟩
theorem mod3 (a : Int) : Fit (markM (modS a 3)) := by
  obtain ⟨h1, h2⟩ := modS_range a (m := 3) (by omega)
  exact .inr ⟨rfl, h1, by show modS a 3 ≤ 2; omega⟩

end
end Go.Proofs.Ytmlnockcmdameaa
end

/-
  CheckpointCut, walked: the law.
-/
section
set_option linter.unusedVariables false
set_option linter.unusedSimpArgs false
namespace Go.Proofs.Ytmlnockcmdameaa
open Go.Vc


set_option maxHeartbeats 4000000 in
theorem Cut_in {Φ : PW} [Stable Φ] (n : Int) {lp : Option Addr} {lc : Nat} {l : List EgD} {op : Option Addr} {oc : Nat} {ops : List OpN} (hsl : ∀ M w, Φ M w → Sl M w lp l) (hop : ∀ M w, Φ M w → Sl M w op ops) :
    GivesIn Φ Try.prog F.erratalaw39_CheckpointCut #[.int .i64 n, .slice lp l.length lc, .slice op ops.length oc] (.bool true) := by
  refine .there (fun M w h => (hsl M w h).there) fun hlth => .there (fun M w h => (hop M w h).there) fun hoth => ?_
  refine gives_in (Berratalaw39_CheckpointCut_run n lp l.length lc op ops.length oc) fun W R => ?_
  refine fun w G cx => small_g.use cx fun w cx => ⟨true, rfl, R, Φ, inferInstance, cx, fun w G cx => Br.intro (fun _ => fun w G cx => ⟨rfl, cx.left⟩) (fun hb => ?_)⟩
  simp only [Bool.or_eq_false_iff, decide_eq_false_iff_not] at hb
  obtain ⟨⟨⟨hn1, hn5⟩, hl6⟩, ho150⟩ := hb
  obtain ⟨N, rfl⟩ : ∃ N : Nat, n = N := ⟨n.toNat, by omega⟩
  obtain ⟨eg, eo, hep⟩ : ∃ eg eo, 0 < l.length → lp = some ⟨eg, eo, none⟩ := by
    rcases Nat.eq_zero_or_pos l.length with h | h
    · exact ⟨0, 0, fun h2 => by omega⟩
    · obtain ⟨b, o, e⟩ := hlth h; exact ⟨b, o, fun _ => e⟩
  -- the channels are looked at
  clear cx
  refine exI_mk (fun ni R' Φ' m => ∃ k : Nat, ni = k ∧ k ≤ l.length ∧ R' = R ∧ Φ' = Φ ∧ m = l.length - k ∧ ∀ j, (hj : j < l.length) → j < k → 0 ≤ l[j].src ∧ l[j].src < l[j].dst ∧ l[j].dst < N) ⟨⟨R, Φ, _, inferInstance, fun w G cx => cx, 0, rfl, Nat.zero_le _, rfl, rfl, rfl, fun j hj h => by omega⟩, ?_⟩
  rintro ni R1 Φ1 m _ ⟨k, rfl, hkl, rfl, rfl, rfl, hall⟩
  refine Br.intro (fun hlt => fun w G cx => ?_) (fun hge => ?_)
  · have hlt : k < l.length := by have := of_decide_eq_true hlt; omega
    have hpp := hep (by omega)
    have hrow := sl_eg (by have := hsl _ _ cx.phi; rw [hpp] at this; exact this) hlt
    have h0 : w.cell? (Addr.mk eg (eo + ((k : Nat) : Int).toNat * 2) none) = some (.int .i64 l[k].src) := by have := hrow 0 (by simp); rw [Nat.add_zero] at this; exact this
    have h1 : w.cell? (Addr.mk eg (eo + ((k : Nat) : Int).toNat * 2 + 1) none) = some (.int .i64 l[k].dst) := hrow 1 (by simp)
    refine ⟨by omega, ptrK_intro eg eo hpp ⟨_, h0, fun _ => by omega, ptrK_intro eg eo hpp ⟨_, fun _ => h1, fun _ => by omega, ptrK_intro eg eo hpp ⟨_, fun _ => h0, fun _ => by omega, ptrK_intro eg eo hpp ⟨_, fun _ => h1, Br.intro (fun _ => fun w G cx => ⟨rfl, cx.left⟩) (fun hb => ?_)⟩⟩⟩⟩⟩
    simp only [Bool.or_eq_false_iff, decide_eq_false_iff_not] at hb
    refine ⟨by unfold I64; omega, R1, Φ1, l.length - (k + 1), inferInstance, fun w G cx => cx, ⟨k + 1, by omega, hlt, rfl, rfl, rfl, fun j hj hjk => ?_⟩, by omega⟩
    rcases Nat.lt_or_ge j k with h | h
    · exact hall j hj h
    · have : j = k := by omega
      subst this
      omega
  have hge : k = l.length := by have := of_decide_eq_false hge; omega
  subst hge
  have hok : EgOk N l := fun k hk => hall k hk hk
  clear hall
  have hg0 := net_good (n := N) (l := l) (by omega) (by omega) (by omega) hok
  refine fun w G cx => begin_use (x := net0 N l) (net_fresh N l) hep (fun M w hw k hk => ?_) (by show N ≤ 1000; omega) (by show l.length ≤ 1000; omega) cx fun A ea ia w hE hP cx => ⟨some ⟨A.xb, 0, none⟩, rfl, lay A ea ia (net0 N l) ++ R1, Φ1, inferInstance, by rw [List.append_assoc]; exact cx, Br.intro (fun h => by cases h) (fun _ => ?_)⟩
  · have hk : k < l.length := hk
    obtain ⟨g1, g2⟩ := net_eg hok hk
    rw [g1, g2]
    exact sl_eg (by have := hsl _ _ hw; rw [hep (by omega)] at this; exact this) hk
  clear cx
  have hA0 : At Φ1 A (net0 N l) (net0 N l) ea ia 20 := ⟨hE, hP, hg0, .refl _, net_lens N l 20⟩
  have hNn : (net0 N l).n = N := rfl
  have hNe : (net0 N l).ne = l.length := rfl
  generalize net0 N l = x0 at *
  -- the operations
  refine exI_mk (fun nc ni R' Φ' m => ∃ (i c : Nat) (y : NtD) (ea' : Nat → EA) (ia' : Nat → IA), nc = c ∧ ni = i ∧ i ≤ ops.length ∧ c ≤ i ∧ R' = lay A ea' ia' y ++ R1 ∧ Φ' = Φ1 ∧ m = ops.length - i ∧ At Φ1 A x0 y ea' ia' (20 + i)) ⟨⟨_, Φ1, _, inferInstance, fun w G cx => cx, 0, 0, x0, ea, ia, rfl, rfl, Nat.zero_le _, Nat.le_refl _, rfl, rfl, rfl, hA0⟩, ?_⟩
  rintro nc ni R2 Φ2 m _ ⟨i, c, y, ea1, ia1, rfl, rfl, hil, hci, rfl, rfl, rfl, hA⟩
  have hyn : y.n = N := hA.same.n.trans hNn
  have hye : y.ne = l.length := hA.same.ne.trans hNe
  refine Br.intro (fun hlt => ?_) (fun hge => ?_)
  · have hlt : i < ops.length := by have := of_decide_eq_true hlt; omega
    obtain ⟨ob, oo, hpp⟩ := hoth (by omega)
    refine ⟨by omega, ptrK_intro ob oo hpp fun w G cx => ⟨ops[i].op, ops[i].who, ops[i].n, sl_opn (by have := hop _ _ cx.phi; rw [hpp] at this; exact this) hlt, fun b0 => ?_⟩⟩
    clear cx
    generalize ops[i] = o at *
    refine exI_mk (fun nc R' Φ' => ∃ (c' : Nat) (z : NtD) (ea' : Nat → EA) (ia' : Nat → IA), nc = c' ∧ c' ≤ i + 1 ∧ R' = lay A ea' ia' z ++ R1 ∧ Φ' = Φ2 ∧ At Φ2 A x0 z ea' ia' (20 + i + 1)) ⟨⟨andZ o.op 7, fun w => and_run o.op 7 w, ?_⟩, ?_⟩
    · generalize andZ o.op 7 = d
      refine (fun (hP : (d = 0 ∨ d = 1) → _) (hT : (d = 2 ∨ d = 3 ∨ d = 4) → _) (hS : d = 7 → _) (hF : d ≠ 7 → _) => Br.intro (fun g => Br.intro (fun _ => hP (.inl (of_decide_eq_true g))) (fun n => absurd (of_decide_eq_true g) (of_decide_eq_false n))) (fun _ => Br.intro (fun g => hP (.inr (of_decide_eq_true g))) (fun _ => Br.intro (fun g => Br.intro (fun _ => hT (.inl (of_decide_eq_true g))) (fun n => absurd (of_decide_eq_true g) (of_decide_eq_false n))) (fun _ => Br.intro (fun g => Br.intro (fun _ => hT (.inr (.inl (of_decide_eq_true g)))) (fun n => absurd (of_decide_eq_true g) (of_decide_eq_false n))) (fun _ => Br.intro (fun g => hT (.inr (.inr (of_decide_eq_true g)))) (fun _ => Br.intro (fun g => hS (of_decide_eq_true g)) (fun n => hF (of_decide_eq_false n)))))))) ?_ ?_ ?_ ?_
      · -- something is produced
        intro _ w G cx
        obtain ⟨u, hu1, hu2⟩ := modN (a := o.who) (n := N) (by omega)
        have hmod : ∀ w3, (∃ k, w3 = w.drewN k) → Calls Try.prog F.erratalaw39_mod #[.int .i64 o.who, .int .i64 N] w3 fun e w4 => e = .returned (.int .i64 u) ∧ ∃ k, w4 = w.drewN k := fun w3 ⟨k, hw3⟩ => by
          subst hw3
          exact (mod_q o.who N (by omega) _).mono fun e w' ⟨g1, g2⟩ => ⟨by rw [g1, hu1], k, g2⟩
        obtain ⟨b1, b2, b3, b4, b5, b6, b7, b8, hb⟩ := (lay_hd (show Ctx W w (lay A ea1 ia1 y ++ (R1 ++ G)) Φ2 by rw [← List.append_assoc]; exact cx)).ptr
        have hnn : u < y.n := by omega
        refine ⟨(u : Int), hmod, sourceS y u, fun w3 ⟨k, hw3⟩ => ?_, ptrK_intro A.xb 0 rfl ⟨_, _, _, fun _ => lay_x cx rfl, (u : Int), fun _ => hmod, fun _ => ⟨by omega, Int.ofNat_lt.2 hnn⟩, ptrK_intro b3 0 (hb.bx (by omega)) ⟨_, _, _, fun _ => lay_get cx 3 rfl (hb.bx (by omega)) hnn, Br.intro (fun hs => ?_) (fun _ => ⟨_, Φ2, inferInstance, fun w G cx => cx, c, y, ea1, ia1, rfl, by omega, rfl, rfl, hA.ed, hA.np, hA.good, hA.same, hA.lens.more (by omega)⟩)⟩⟩⟩
        · subst hw3
          have cd : Ctx W (w.drewN k) (hd A ea1 ia1 y ++ ((edsO ea1 y (List.range y.ne) ++ insO ia1 y (List.range y.n)) ++ (R1 ++ G))) Φ2 := lay_hd (show Ctx W (w.drewN k) (lay A ea1 ia1 y ++ (R1 ++ G)) Φ2 by rw [← List.append_assoc]; exact Ctx.draw cx k)
          exact (source_q hA.edy cd u (by omega)).mono fun e w' ⟨g1, g2⟩ => ⟨g1, k, g2⟩
        · rw [Bool.and_eq_true] at hs
          have hbox : (y.ins u).box = [] := by
            have := of_decide_eq_true hs.2
            exact List.eq_nil_of_length_eq_zero (by omega)
          refine ⟨[], tru, inferInstance, fun w F cx => cut_to cx (List.nil_sublist _), fun w G cx => mod_use o.who N (by omega) cx fun w cx => ⟨_, rfl, _, Φ2, inferInstance, cx, fun w F cx => cut_to cx (List.nil_sublist _), fun w G cx => mod_use o.n 3 (by omega) cx fun w cx => ⟨_, rfl, _, Φ2, inferInstance, cx, fun w F cx => cut_to cx (List.nil_sublist _), fun w G cx => (mark_g _).use cx fun w cx => ⟨_, _, _, _, _, none, 0, 0, rfl, _, Φ2, inferInstance, cx, fun w F cx => cut_to cx (List.nil_sublist _), fun w G cx => ?_⟩⟩⟩⟩
          rw [hu1]
          exact hA.prod (by omega) hnn (mod3 o.n) rfl hbox cx fun z ea' ia' w hz cx => ⟨rfl, lay A ea' ia' z ++ R1, Φ2, inferInstance, cx, _, Φ2, inferInstance, fun w G cx => cx, c, z, ea', ia', rfl, by omega, rfl, rfl, hz⟩
      · -- something is looked at
        intro _
        refine Br.intro (fun h0 => fun w G cx => ?_) (fun _ => ⟨_, Φ2, inferInstance, fun w G cx => cx, c, y, ea1, ia1, rfl, by omega, rfl, rfl, hA.ed, hA.np, hA.good, hA.same, hA.lens.more (by omega)⟩)
        have h0 : 1 ≤ l.length := by have := of_decide_eq_true h0; omega
        obtain ⟨u, hu1, hu2⟩ := modN (a := o.who) (n := l.length) h0
        refine mod_use o.who l.length (by omega) cx fun w cx => ⟨_, rfl, _, Φ2, inferInstance, cx, fun w G cx => ?_⟩
        rw [hu1]
        exact hA.take (by omega) (by omega) cx fun z ea' ia' w b hz cx => ⟨b, true, rfl, lay A ea' ia' z ++ R1, Φ2, inferInstance, cx, Br.intro (fun h => by cases h) (fun _ => ⟨_, Φ2, inferInstance, fun w G cx => cx, c, z, ea', ia', rfl, by omega, rfl, rfl, hz⟩)⟩
      · -- a checkpoint begins
        intro _
        refine ptrK_intro A.xb 0 rfl fun w G cx => ⟨_, lay_x cx rfl, Br.intro (fun h0 => ?_) (fun _ => ⟨_, Φ2, inferInstance, fun w G cx => cx, c, y, ea1, ia1, rfl, by omega, rfl, rfl, hA.ed, hA.np, hA.good, hA.same, hA.lens.more (by omega)⟩)⟩
        have h0 : y.num = 0 := of_decide_eq_true h0
        refine ⟨by unfold I64; omega, andZ o.n 1, fun w => and_run o.n 1 w, fun w G cx => ?_⟩
        exact hA.start (by omega) h0 (by omega) (and1 o.n) cx fun z ea' ia' w hz cx => ⟨rfl, lay A ea' ia' z ++ R1, Φ2, inferInstance, cx, _, Φ2, inferInstance, fun w G cx => cx, c + 1, z, ea', ia', by omega, by omega, rfl, rfl, hz⟩
      · -- something is sent
        intro _ w G cx
        obtain ⟨u, hu1, hu2⟩ := modN (a := o.who) (n := N) (by omega)
        refine mod_use o.who N (by omega) cx fun w cx => ⟨_, rfl, _, Φ2, inferInstance, cx, fun w G cx => ?_⟩
        rw [hu1]
        exact hA.flush (by omega) (by omega) cx fun z ea' ia' w b hz cx => ⟨b, rfl, lay A ea' ia' z ++ R1, Φ2, inferInstance, cx, _, Φ2, inferInstance, fun w G cx => cx, c, z, ea', ia', rfl, by omega, rfl, rfl, hz⟩
    -- is it whole?
    clear hA hyn hye
    rintro nc R3 Φ3 _ ⟨c', z, ea2, ia2, rfl, hc', rfl, rfl, hA⟩
    have hzn : z.n = N := hA.same.n.trans hNn
    have hze : z.ne = l.length := hA.same.ne.trans hNe
    have next : ∀ {v : NtD} {ea' : Nat → EA} {ia' : Nat → IA}, At Φ3 A x0 v ea' ia' (20 + i + 1) → ∃ (i_1 c : Nat) (y : NtD) (ea'_1 : Nat → EA) (ia'_1 : Nat → IA), (c' : Int) = c ∧ (i : Int) + 1 = i_1 ∧ i_1 ≤ ops.length ∧ c ≤ i_1 ∧ lay A ea' ia' v ++ R1 = lay A ea'_1 ia'_1 y ++ R1 ∧ Φ3 = Φ3 ∧ ops.length - (i + 1) = ops.length - i_1 ∧ At Φ3 A x0 y ea'_1 ia'_1 (20 + i_1) := fun {v ea' ia'} h => ⟨i + 1, c', v, ea', ia', rfl, by omega, hlt, hc', rfl, rfl, rfl, h⟩
    refine ptrK_intro A.xb 0 rfl fun w G cx => ⟨_, lay_x cx rfl, Br.intro (fun hnum => fun w G cx => ?_) (fun _ => ⟨by unfold I64; omega, _, Φ3, ops.length - (i + 1), inferInstance, fun w G cx => cx, next hA, by omega⟩)⟩
    have hnum : 0 < z.num := of_decide_eq_true hnum
    have hact : Act z := by
      rcases hA.good.2 with g | g
      · have := g.num; omega
      · exact g
    refine whole_use (S := R1 ++ G) (by omega) (by omega) hA.np (fun i hi => by have := box_le hA.good hi; omega) (by rw [← List.append_assoc]; exact cx) fun w cx => ⟨wholeS z, rfl, lay A ea2 ia2 z ++ R1, Φ3, inferInstance, by rw [List.append_assoc]; exact cx, Br.intro (fun hw => fun w G cx => ?_) (fun _ => ⟨by unfold I64; omega, _, Φ3, ops.length - (i + 1), inferInstance, fun w G cx => cx, next hA, by omega⟩)⟩
    refine consistent_use (S := R1 ++ G) hA.edy (hA.dri (by omega)).nb (whole_cut hA.good.1 hact hw) (by rw [← List.append_assoc]; exact cx) fun w cx => ⟨true, rfl, lay A ea2 ia2 z ++ R1, Φ3, inferInstance, by rw [List.append_assoc]; exact cx, Br.intro (fun h => by cases h) (fun _ => ptrK_intro A.xb 0 rfl fun w G cx => ?_)⟩
    obtain ⟨g1, g2⟩ := x_put (x := z) (ea := ea2) (ia := ia2) (j := 10) (v := .int .i64 0) (y := { z with num := 0 }) (by omega) rfl cx
    refine ⟨g1, fun w' hw' => ⟨lay A ea2 ia2 { z with num := 0 } ++ R1, Φ3, inferInstance, g2 w' hw', fun w G cx => ?_⟩⟩
    have hs0 : SameE z ({ z with num := 0 } : NtD) := ⟨rfl, rfl, fun _ => rfl, fun _ => rfl⟩
    refine clear_use (S := R1 ++ G) (x := { z with num := 0 }) (by show z.ne ≤ 1000; omega) (by show z.n ≤ 1000; omega) ⟨hA.np.ch, hA.np.gt⟩ (by rw [← List.append_assoc]; exact cx) fun ea' w hP' cx => ⟨rfl, lay A ea' ia2 (clearS { z with num := 0 }) ++ R1, Φ3, inferInstance, by rw [List.append_assoc]; exact cx, by unfold I64; omega, _, Φ3, ops.length - (i + 1), inferInstance, fun w G cx => cx, next ⟨hA.ed, hP', good_clear hA.good hw, hA.same.trans (hs0.trans (same_clear _)), clear_lens hA.lens⟩, by omega⟩
  -- everything goes on
  have hge : i = ops.length := by have := of_decide_eq_false hge; omega
  subst hge
  refine fun w G cx => drain_use (S := R1 ++ G) hA.edy (hA.dri (by omega)) hA.np (by rw [← List.append_assoc]; exact cx) fun z ea2 ia2 w hP2 hD hf ht cx => ⟨true, rfl, lay A ea2 ia2 z ++ R1, Φ2, inferInstance, by rw [List.append_assoc]; exact cx, Br.intro (fun h => by cases h) (fun _ => ?_)⟩
  clear cx
  obtain ⟨hq, hwh⟩ := stuck_all hD.good hf ht
  have hzn : z.n = N := hD.same.n.trans hyn
  have hze : z.ne = l.length := hD.same.ne.trans hye
  have hE2 := hD.same.edF hA.edy
  -- nothing stands in a channel
  have lenz : ∀ {k : Nat} {w : World} {G : List Own}, k < z.ne → Ctx W w ((lay A ea2 ia2 z ++ R1) ++ G) Φ2 → Calls Try.prog F.channel_Channel_Len #[.pointer (some ⟨(ea2 k).ch.cb, 0, none⟩)] w fun e w' => e = .returned (.int .i64 0) ∧ w' = w := fun {k w G} hk cx => by
    have hc := (hP2.ch k hk).c25
    rw [hq k hk] at hc
    exact Len_q ((chan_in hk cx).get 0 rfl hc)
  refine ptrK_intro A.xb 0 rfl fun w G cx => ⟨_, lay_x cx rfl, ?_⟩
  obtain ⟨b1, b2, b3, b4, b5, b6, b7, b8, hb⟩ := (lay_hd (show Ctx W w (lay A ea2 ia2 z ++ (R1 ++ G)) Φ2 by rw [← List.append_assoc]; exact cx)).ptr
  clear cx
  refine Br.intro (fun hnum => fun w G cx => ?isMade) (fun _ => ?isIdle)
  case' isMade =>
    have hnum : 0 < z.num := of_decide_eq_true hnum
    have hact : Act z := by
      rcases hD.good.2 with g | g
      · have := g.num; omega
      · exact g
    refine whole_use (S := R1 ++ G) (by omega) (by omega) hP2 (fun i hi => by have := box_le hD.good hi; omega) (by rw [← List.append_assoc]; exact cx) fun w cx => ⟨wholeS z, rfl, lay A ea2 ia2 z ++ R1, Φ2, inferInstance, by rw [List.append_assoc]; exact cx, Br.intro (fun h => by rw [hwh hnum] at h; cases h) (fun _ => fun w G cx => ?_)⟩
    refine consistent_use (S := R1 ++ G) hE2 hD.nb (whole_cut hD.good.1 hact (hwh hnum)) (by rw [← List.append_assoc]; exact cx) fun w cx => ⟨true, rfl, lay A ea2 ia2 z ++ R1, Φ2, inferInstance, by rw [List.append_assoc]; exact cx, Br.intro (fun h => by cases h) (fun _ => ?_)⟩
    clear cx
  all_goals
    refine exI_mk (fun ni R' Φ' m => ∃ k : Nat, ni = k ∧ k ≤ z.ne ∧ R' = lay A ea2 ia2 z ++ R1 ∧ Φ' = Φ2 ∧ m = z.ne - k) ⟨⟨_, Φ2, _, inferInstance, fun w G cx => cx, 0, rfl, Nat.zero_le _, rfl, rfl, rfl⟩, ?_⟩
    rintro ni R3 Φ3 m _ ⟨k, rfl, hkn, rfl, rfl, rfl⟩
    refine ptrK_intro A.xb 0 rfl fun w G cx => ⟨_, _, _, lay_x cx rfl, Br.intro (fun hlt => ?_) (fun _ => fun w G cx => ⟨rfl, ?_⟩)⟩
    · have hlt : k < z.ne := by have := of_decide_eq_true hlt; omega
      refine ptrK_intro A.xb 0 rfl fun w G cx => ⟨_, _, _, lay_x cx rfl, ⟨by omega, Int.ofNat_lt.2 hlt⟩, ptrK_intro b1 0 (hb.ch (by omega)) fun w G cx => ⟨_, lay_get cx 1 rfl (hb.ch (by omega)) hlt, fun w G cx => (lenz hlt cx).mono fun e w' ⟨g1, g2⟩ => ⟨0, g1, lay A ea2 ia2 z ++ R1, Φ3, inferInstance, by rw [g2]; exact cx, Br.intro (fun h => by cases h) (fun _ => ⟨by unfold I64; omega, _, Φ3, z.ne - (k + 1), inferInstance, fun w G cx => cx, ⟨k + 1, by omega, hlt, rfl, rfl, rfl⟩, by omega⟩)⟩⟩⟩
    · exact (Ctx.right (S := lay A ea2 ia2 z) (Ctx.left cx))
end Go.Proofs.Ytmlnockcmdameaa
end

section
set_option linter.unusedVariables false
set_option linter.unusedSimpArgs false
namespace Go.Proofs.Ytmlnockcmdameaa
open Go.ChangeShapes Go.WideShapes Go.ChangeAt Go.RowKit Go.Vc


theorem df_own : ownKnob Try.prog.godebug = none := by kernel_rfl
theorem df_laid : laidOutB Try.prog = true := by kernel_rfl

theorem trodAll_n {H : Type} {enc : TypeId × Value → H} {P : Program} {w : World} {base : Nat} {spare : Nat → Bool} {held : Bool} {t0 t1 t2 : TypeId} {args : Array Value} {ds : List (DataW H)} {ps : List MemPlace} (h : DataW.TrodAll enc P w base spare held [t0, t1, t2] args.toList ds ps) :
    ∃ v0 v1 v2 d0 d1 d2 p0 p1 p2, args = #[v0, v1, v2] ∧ ds = [d0, d1, d2] ∧ ps = p0 ++ p1 ++ p2 ∧ DataW.Trod enc P w base spare held t0 v0 d0 p0 ∧ DataW.Trod enc P w base spare held t1 v1 d1 p1 ∧ DataW.Trod enc P w base spare held t2 v2 d2 p2 := by
  obtain ⟨v0, vs0, d0, ds0, p0, q0, hargs, rfl, rfl, h0, h⟩ := trodAll_cons h
  obtain ⟨v1, vs1, d1, ds1, p1, q1, rfl, rfl, rfl, h1, h⟩ := trodAll_cons h
  obtain ⟨v2, vs2, d2, ds2, p2, q2, rfl, rfl, rfl, h2, h⟩ := trodAll_cons h
  obtain ⟨rfl, rfl, rfl⟩ := trodAll_nil h
  exact ⟨v0, v1, v2, d0, d1, d2, p0, p1, p2, by cases args; simp_all, rfl, by simp, h0, h1, h2⟩

set_option maxRecDepth 100000 in
theorem law_lifted (os : Os) (started : os.Started) (H : Type) (enc : TypeId × Value → H) :
    ReturnsInHanded {} Try.checked os 3 .any (Rows.checkpointCutSpec.pre6 enc Try.prog Try.f3 Rows.checkpointCutRow.domain false) (Rows.checkpointCutSpec.post enc Try.prog Try.f3 false true false false) := by
  refine lawTrue (C := Try.checked) (tb := 4) df_own started (by kernel_rfl) Try.func3 df_laid rfl ?_ rfl Try.underlying4 (by kernel_rfl)
    (ChangeSpec.witness6 (enc := enc) (C := Try.checked) false ⟨#[], #[.int .i64 0, .slice none 0 0, .slice none 0 0], []⟩ 8 (by kernel_rfl) (by kernel_rfl) (by kernel_rfl) (by kernel_rfl)) ?_
  · intro ds hd
    match ds, hd with
    | [_, _, _], _ => exact ⟨rfl, rfl, rfl⟩
  · intro W base args ds p hval0 hA0 _
    have hval : ∀ (j : Nat) t v, Try.f3.params[j]? = some t → args[j]? = some v → Value.okWide Try.prog W .any base t v := hval0
    have hA : DataW.TrodAll enc Try.prog W 0 (fun _ => true) true Try.f3.params.toList args.toList ds p := hA0
    rw [Try.params3] at hA hval
    obtain ⟨v0, v1, v2, d0, d1, d2, p0, p1, p2, rfl, rfl, rfl, h0, h1, h2⟩ := trodAll_n hA
    obtain ⟨n, rfl, rfl, rfl, nw⟩ := open_int Try.underlying3 (hval 0 3 v0 rfl rfl) h0
    obtain ⟨lp, lc, l, rfl, la, lb, s1⟩ := open_sl (α := EgD) 12 Try.underlying22 (hval 1 22 v1 rfl rfl) (by kernel_rfl) h1
    obtain ⟨opsp, opsc, ops, rfl, opsa, opsb, s2⟩ := open_sl (α := OpN) 12 Try.underlying23 (hval 2 23 v2 rfl rfl) (by kernel_rfl) h2
    have st0 : Stable (fun M w => Sl M w opsp ops) := inferInstance
    have st1 : Stable (fun M w => Sl M w lp l ∧ Sl M w opsp ops) := instStableAnd (fun M w => Sl M w lp l) (fun M w => Sl M w opsp ops)
    have fin : GivesIn (fun M w => Sl M w lp l ∧ Sl M w opsp ops) Try.prog 3 _ (.bool true) := (Cut_in (Φ := (fun M w => Sl M w lp l ∧ Sl M w opsp ops)) (lc := lc) (oc := opsc) n (fun _ _ h => h.1) (fun _ _ h => h.2))
    exact fin.law ⟨s1, s2⟩

theorem cut_holds : Rows.CheckpointCutSaid :=
  OpenClaim.holds_of_wide 3 Try.f3 rfl rfl rfl rfl rfl rfl rfl ⟨rfl, rfl, rfl, rfl, rfl⟩ rfl rfl rfl rfl rfl (by kernel_rfl) Try.func3 (by kernel_rfl)
    (of_decide_eq_true (by kernel_rfl)) (by unfold Func.isWrapper; first | (rw [if_pos (by decide +kernel)]; kernel_rfl) | (rw [if_neg (by decide +kernel)]; exact ⟨rfl, rfl⟩))
    (fun os started H enc _ => law_lifted os started H enc)

end Go.Proofs.Ytmlnockcmdameaa
end

