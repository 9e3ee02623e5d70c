/-
  Replica: Propose.
-/
import Derived.Test.YtifgijoeckoojaaRf
set_option linter.unusedVariables false
set_option linter.unusedSimpArgs false
namespace Go.Proofs.Ytifgijoeckoojaa
open Go.Vc

abbrev zeroO : List Value := [.bool false, .int .i64 0, .int .i64 0, .int .i64 0, .slice none 0 0, .slice none 0 0]
def propR (r : Rep) (data : ByteArray) : Rep := { r with log := r.log ++ [⟨r.term, data⟩] }

theorem prop_no {r : Rep} {data : ByteArray} (h : r.role ≠ 2) : proposeP r data = (r, 0, 24, out0) := by unfold proposeP; rw [if_pos h]
theorem prop_big {r : Rep} {data : ByteArray} (h : ¬ r.role ≠ 2) (h2 : 2000 < (data.size : Int)) : proposeP r data = (r, 0, 1, out0) := by unfold proposeP; rw [if_neg h, if_pos h2]
theorem prop_full {r : Rep} {data : ByteArray} (h : ¬ r.role ≠ 2) (h2 : ¬ 2000 < (data.size : Int)) (h3 : r.log.length = 4000) : proposeP r data = (r, 0, 6, out0) := by unfold proposeP; rw [if_neg h, if_neg h2, if_pos h3]
theorem prop_ok {r : Rep} {data : ByteArray} (h : ¬ r.role ≠ 2) (h2 : ¬ 2000 < (data.size : Int)) (h3 : ¬ r.log.length = 4000) :
    proposeP r data = (propR r data, ((r.log.length + 1 : Nat) : Int), 0, ⟨false, 0, 0, ((r.log.length + 1 : Nat) : Int), [⟨r.term, data⟩], allOf (propR r data)⟩) := by unfold proposeP; rw [if_neg h, if_neg h2, if_neg h3]; rfl

theorem sorted_snoc {l : List RecD} {t : Int} {x : RecD} (h : Sorted l t) (h1 : 1 ≤ x.term) (h2 : x.term ≤ t) (h3 : x.data.size ≤ 2000) (h4 : ∀ y ∈ l, y.term ≤ x.term) : Sorted (l ++ [x]) t := by
  refine ⟨fun y hy => ?_, fun y hy => ?_, fun y hy => ?_, fun i j hij hj hi => ?_⟩
  · rcases List.mem_append.1 hy with hy | hy
    · exact h.lo y hy
    · rw [List.mem_singleton.1 hy]; exact h1
  · rcases List.mem_append.1 hy with hy | hy
    · exact h.hi y hy
    · rw [List.mem_singleton.1 hy]; exact h2
  · rcases List.mem_append.1 hy with hy | hy
    · exact h.data y hy
    · rw [List.mem_singleton.1 hy]; exact h3
  · rw [List.length_append, List.length_singleton] at hj hi
    by_cases hjl : j < l.length
    · rw [List.getElem_append_left (by omega), List.getElem_append_left hjl]
      exact h.asc i j hij hjl (by omega)
    · have hj' : j = l.length := by omega
      subst hj'
      rw [List.getElem_append_right (Nat.le_refl _)]
      simp only [Nat.sub_self, List.getElem_cons_zero]
      by_cases hil : i < l.length
      · rw [List.getElem_append_left hil]
        exact h4 _ (List.getElem_mem hil)
      · have : i = l.length := by omega
        subst this
        rw [List.getElem_append_right (Nat.le_refl _)]
        simp

theorem propR_ok {r : Rep} {data : ByteArray} (h : r.Ok) (hr : r.role = 2) (ht : 1 ≤ r.term) (h2 : ¬ 2000 < (data.size : Int)) (h3 : ¬ r.log.length = 4000) : (propR r data).Ok := by
  have hl := h.len
  have hlen : (propR r data).log.length = r.log.length + 1 := by simp [propR]
  refine ⟨h.id, h.term0, h.termM, h.vote0, h.voteM, ?_, by rw [hlen]; omega, h.role, by rw [hlen]; have := h.commit; show r.commit ≤ _; omega, fun _ i => ?_, fun i => ?_⟩
  · exact sorted_snoc h.log ht (Int.le_refl _) (by simp only; omega) h.log.hi
  · have := h.next hr i
    rw [hlen]
    show 1 ≤ r.next i ∧ r.next i ≤ r.log.length + 1 + 1 ∧ r.mat i ≤ r.log.length + 1
    omega
  · exact h.bound i

set_option maxHeartbeats 2000000 in
theorem Propose_use {W w : World} {S : List Own} {Φ : PW} [Stable Φ] {b : Nat} {r : Rep} {p : Option Addr} {c : Nat} (cx : Ctx W w (repO b r p c ++ S) Φ) (hr : r.Ok) (ht : r.role = 2 → 1 ≤ r.term) (data : ByteArray) {K : Ending → World → Prop}
    (hK : OutK W S Φ b (proposeP r data).1 (proposeP r data).2.2.2 fun v w => K (.returned (.tuple #[.int .i64 (proposeP r data).2.1, .int .i64 (proposeP r data).2.2.1, v])) w) : Calls Try.prog F.replica_Replica_Propose #[.pointer (some ⟨b, 0, none⟩), .string data] w K := by
  have hlen := hr.len
  refine (Breplica_Replica_Propose_run b 0 data (J := fun u w' => K (.returned u) w') cx ?_).mono fun e w' ⟨v, he, hj⟩ => by rw [he]; exact hj
  refine fun k0 w G cx => ⟨r.role, cx.get 1 rfl rfl, Br.intro (fun h => fun w G cx => ⟨cx.can 0 rfl (by simp), fun w' hw' => ?_⟩) (fun h => Br.intro (fun h2 => fun w G cx => ⟨cx.can 0 rfl (by simp), fun w' hw' => ?_⟩) (fun h2 => fun w G cx => ⟨p, r.log.length, c, cx.get 1 rfl rfl, Br.intro (fun h3 => fun w G cx => ⟨cx.can 0 rfl (by simp), fun w' hw' => ?_⟩) (fun h3 => fun w G cx => ⟨r.term, cx.get 1 rfl rfl, fun _ => ?_⟩)⟩))⟩
  · rw [prop_no (of_decide_eq_true h)] at hK
    have cx1 : Ctx W w' (.blk k0 zeroO 45 :: (repO b r p c ++ S) ++ G) Φ := cx.puts 0 hw' rfl
    exact ⟨_, Φ, inferInstance, cx1, fun w G cx => ⟨_, _, _, _, none, _, 0, none, _, 0, cx.row0 0 rfl, fun w G cx => hK.zero cx.left.drop1⟩⟩
  · rw [prop_big (of_decide_eq_false h) (of_decide_eq_true h2)] at hK
    have cx1 : Ctx W w' (.blk k0 zeroO 45 :: (repO b r p c ++ S) ++ G) Φ := cx.puts 0 hw' rfl
    exact ⟨_, Φ, inferInstance, cx1, fun w G cx => ⟨_, _, _, _, none, _, 0, none, _, 0, cx.row0 0 rfl, fun w G cx => hK.zero cx.left.drop1⟩⟩
  · rw [prop_full (of_decide_eq_false h) (of_decide_eq_false h2) (by have := of_decide_eq_true h3; omega)] at hK
    have cx1 : Ctx W w' (.blk k0 zeroO 45 :: (repO b r p c ++ S) ++ G) Φ := cx.puts 0 hw' rfl
    exact ⟨_, Φ, inferInstance, cx1, fun w G cx => ⟨_, _, _, _, none, _, 0, none, _, 0, cx.row0 0 rfl, fun w G cx => hK.zero cx.left.drop1⟩⟩
  have h := of_decide_eq_false h
  have h2 := of_decide_eq_false h2
  have h3' : ¬ r.log.length = 4000 := fun e => (of_decide_eq_false h3) (by omega)
  have hrole : r.role = 2 := Decidable.not_not.1 h
  rw [prop_ok h h2 h3'] at hK
  have hpo := propR_ok hr hrole (ht hrole) h2 h3'
  have hpl : (propR r data).log.length = r.log.length + 1 := by simp [propR]
  refine ⟨[.blk b (r.cells p c) 76], fun _ _ => True, inferInstance, fun w G cx => (cx.weak fun _ _ _ => trivial).sub (List.Sublist.cons _ (List.Sublist.cons_cons _ (List.Sublist.cons _ (List.sublist_append_right _ _)))), p, r.log.length, c, fun w G cx => ⟨p, r.log.length, c, cx.get 0 rfl rfl, rfl⟩, fun k1 => ⟨fun w G cx => (cx.weak fun _ _ _ => trivial).sub (List.Sublist.cons _ (List.Sublist.cons _ (List.Sublist.cons_cons _ (List.Sublist.cons _ (List.sublist_append_right _ _))))), fun w G cx => ?_⟩⟩
  have cx1 : Ctx W w (.blk k1 [.int .i64 r.term, .string data] 55 :: .buf p r.log.length c (recCells r.log) 55 2 :: ([.blk k0 zeroO 45, .blk b (r.cells p c) 76] ++ (S ++ G))) Φ :=
    cx.perm (List.Perm.cons _ (List.perm_middle (l₁ := [Own.blk k0 zeroO 45, Own.blk b (r.cells p c) 76])))
  obtain ⟨p', cap', w', hrun, _, cx'⟩ := Ctx.app1 (P := Try.prog) (ts := 35) (ty := 35) (kb := #[false, false]) (size := 2) (bytes := 24) cx1 (by kernel_rfl) (by omega) rfl rfl (by omega) (by omega)
  refine ⟨p', r.log.length + 1, cap', w', hrun, .buf p' (r.log.length + 1) cap' (recCells r.log ++ [Value.int .i64 r.term, Value.string data]) 55 2 :: .blk k0 zeroO 45 :: .blk b (r.cells p c) 76 :: S, Φ, inferInstance, cx', fun w G cx => (cx.weak fun _ _ _ => trivial).sub (List.Sublist.cons _ (List.Sublist.cons _ (List.Sublist.cons_cons _ (List.sublist_append_right _ _)))), fun w G cx => ⟨cx.can 2 rfl (by simp), fun w' hw' => ?_⟩⟩
  have hc : (r.cells p c).set 3 (.slice p' (r.log.length + 1) cap') = (propR r data).cells p' cap' := by simp [Rep.cells, propR]
  have hb : recCells r.log ++ [.int .i64 r.term, .string data] = recCells (propR r data).log := by
    show _ = recCells (r.log ++ [⟨r.term, data⟩])
    rw [recs_app]; rfl
  have cx1 : Ctx W w' (repO b (propR r data) p' cap' ++ .blk k0 zeroO 45 :: S ++ G) Φ := by
    have h1 : Ctx W w' (.buf p' (r.log.length + 1) cap' (recCells r.log ++ [.int .i64 r.term, .string data]) 55 2 :: .blk k0 zeroO 45 :: .blk b ((r.cells p c).set 3 (.slice p' (r.log.length + 1) cap')) 76 :: S ++ G) Φ := cx.put 2 hw' rfl
    rw [hc, hb, ← hpl] at h1
    exact h1.perm (List.perm_middle (l₁ := [Own.buf p' (propR r data).log.length cap' (recCells (propR r data).log) 55 2, Own.blk k0 zeroO 45]))
  generalize hr1 : propR r data = r1 at *
  have hfit : ∀ i, i < 3 → Fit r1 i := fun i hi => hpo.fit (by rw [← hr1]; exact hrole) hi
  have hst : ∀ q, Stable (fun M w => Φ M w ∧ Sl M w q (allOf r1)) := fun q => inferInstance
  have hal : (allOf r1).length = 2 := by unfold allOf; rw [List.length_map, others_len]
  have tail : ∀ (k : Nat) (q : Option Addr) (cap : Nat), (allOf r1).length ≤ cap → cap ≤ maxLen → ∀ (w : World) (G : List Own), Ctx W w (.blk k [.int .i64 r.term, .string data] 55 :: (repO b r1 p' cap' ++ .blk k0 zeroO 45 :: S) ++ G) (fun M w => Φ M w ∧ Sl M w q (allOf r1)) →
      CanWrite w k0 0 6 ∧ ∀ w', w' = w.setCells k0 0 [.bool false, .int .i64 0, .int .i64 0, .int .i64 (r1.log.length : Nat), .slice (some (Addr.mk k 0 none)) 1 1, .slice q (allOf r1).length cap] →
        ∃ (R : List Own) (Φ' : PW), Stable Φ' ∧ Ctx W w' (R ++ G) Φ' ∧ (∀ (w : World) (F' : List Own), Ctx W w (R ++ F') Φ' → Ctx W w ([.blk b (r1.cells p' cap') 76] ++ F') (fun _ _ => True)) ∧
          ∀ (w : World) (F' : List Own), Ctx W w (R ++ F') Φ' → ∃ (c1 : Bool) (n1 n2 n3 : Int) (p1 : Option Addr) (k1 k2 : Nat) (p2 : Option Addr) (k3 k4 : Nat), RowAt w k0 0 [.bool c1, .int .i64 n1, .int .i64 n2, .int .i64 n3, .slice p1 k1 k2, .slice p2 k3 k4] ∧
            ∀ (w : World) (F' : List Own), Ctx W w (R ++ F') Φ' → K (.returned (.tuple #[.int .i64 (r1.log.length : Nat), .int .i64 0, .agg #[.bool c1, .int .i64 n1, .int .i64 n2, .int .i64 n3, .slice p1 k1 k2, .slice p2 k3 k4]])) w := by
    intro k q cap hcap hmax w G cx
    refine ⟨cx.can 3 rfl (by simp), fun w' hw' => ?_⟩
    have cx2 := cx.puts 3 hw' rfl
    refine ⟨.blk k [.int .i64 r.term, .string data] 55 :: (repO b r1 p' cap' ++ .blk k0 [.bool false, .int .i64 0, .int .i64 0, .int .i64 (r1.log.length : Nat), .slice (some (Addr.mk k 0 none)) 1 1, .slice q (allOf r1).length cap] 45 :: S), _, hst q, cx2, fun w G cx => (cx.weak fun _ _ _ => trivial).sub (List.Sublist.cons _ (List.Sublist.cons_cons _ (List.Sublist.cons _ (List.Sublist.cons _ (List.sublist_append_right _ _))))), fun w G cx => ⟨_, _, _, _, _, _, _, _, _, _, cx.row0 3 rfl, fun w G cx => ?_⟩⟩
    have hxo : ((⟨r.term, data⟩ : RecD)).Ok := ⟨by have := hr.term0; have := hr.termM; show I64 r.term; unfold I64; omega, by show data.size ≤ maxLen; unfold maxLen; omega⟩
    have := hst q
    obtain ⟨cx3, hs⟩ := cx.left.freezeBlk (α := RecD) (l := [⟨r.term, data⟩]) (Elems.one (rep_rec hxo))
    have cx4 := (front (cx3.add (Ψ := fun M w => Sl M w (some ⟨k, 0, none⟩) [(⟨r.term, data⟩ : RecD)]) hs)).drop1
    have := hK p' cap' (some ⟨k, 0, none⟩) 1 q cap w (by simp) (by simp [maxLen]) hcap hmax (cx4.weak fun M w h => ⟨h.1.1, h.2, h.1.2⟩)
    rw [hpl]
    exact this
  refine ⟨_, Φ, inferInstance, cx1, [.blk b (r1.cells p' cap') 76], fun _ _ => True, inferInstance, fun w G cx => (cx.weak fun _ _ _ => trivial).sub (List.Sublist.cons_cons _ (List.Sublist.cons _ (List.Sublist.cons _ (List.sublist_append_right _ _)))), p', r1.log.length, cap', fun w G cx => ⟨p', r1.log.length, cap', cx.get 0 rfl rfl, rfl⟩, p', r1.log.length, cap', fun w G cx => ⟨p', r1.log.length, cap', cx.get 0 rfl rfl, rfl⟩, ⟨fun k2 => ⟨fun w G cx => (cx.weak fun _ _ _ => trivial).sub (List.Sublist.cons _ (List.Sublist.cons_cons _ (List.Sublist.cons _ (List.Sublist.cons _ (List.sublist_append_right _ _))))), fun w G cx => ?_, trivial⟩, fun w G cx => ?_, trivial⟩⟩
  · have cx5 : Ctx W w (.blk k2 [.int .i64 r.term, .string data] 55 :: (repO b r1 p' cap' ++ (.blk k0 zeroO 45 :: (S ++ G)))) Φ := cx.re (by simp)
    refine all_use (mid cx5) hpo hfit fun q cap w g1 g2 cx => ⟨q, _, cap, rfl, .blk k2 [.int .i64 r.term, .string data] 55 :: (repO b r1 p' cap' ++ .blk k0 zeroO 45 :: S), _, hst q, ?_, fun w G cx => (cx.weak fun _ _ _ => trivial).sub (List.Sublist.cons _ (List.Sublist.cons_cons _ (List.Sublist.cons _ (List.Sublist.cons _ (List.sublist_append_right _ _))))), fun w G cx => tail k2 q cap g1 g2 w G cx, trivial⟩
    have := hst q
    exact (front cx).re (by simp)
  · refine all_use (gl cx) hpo hfit fun q cap w g1 g2 cx => ⟨q, _, cap, rfl, repO b r1 p' cap' ++ .blk k0 zeroO 45 :: S, _, hst q, gr cx, fun w G cx => (cx.weak fun _ _ _ => trivial).sub (List.Sublist.cons_cons _ (List.Sublist.cons _ (List.Sublist.cons _ (List.sublist_append_right _ _)))), fun k2 => ⟨fun w G cx => (cx.weak fun _ _ _ => trivial).sub (List.Sublist.cons _ (List.Sublist.cons_cons _ (List.Sublist.cons _ (List.Sublist.cons _ (List.sublist_append_right _ _))))), fun w G cx => tail k2 q cap g1 g2 w G cx, trivial⟩, trivial⟩

end Go.Proofs.Ytifgijoeckoojaa
