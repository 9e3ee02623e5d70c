/-
  The walks of the reference's Clone, of spoil, List and few.
-/
import Derived.Test.YticgmbmghnikeaaVg
import Derived.Test.YticgmbmghnikeaaBc
set_option linter.unusedVariables false
set_option linter.unusedSimpArgs false
namespace Go.Proofs.Yticgmbmghnikeaa
open Go.Vc

theorem Ctx.bufGet' {W w : World} {S : List Own} {Φ : PW} (c : Ctx W w S Φ) (k : Nat) {p : Option Addr} {n cap : Nat} {cs : List Value} {t : TypeId} {size : Nat} (hk : S[k]? = some (.buf p n cap cs t size)) {b i : Nat} {v : Value} (hp : p = some ⟨b, 0, none⟩) (hv : cs[i]? = some v) : w.cell? ⟨b, i, none⟩ = some v := by
  obtain ⟨b', h1, _, h2⟩ := c.bufCell k hk (by have := (List.getElem?_eq_some_iff.1 hv).1; omega)
  rw [hp] at h1
  cases h1
  exact (h2 _ _ hv).1

/-! ### the reference's Clone -/
theorem Fresh.nil : Fresh [] [] [] := ⟨rfl, fun j hj => by simp at hj⟩

theorem Fresh.snoc {cs vc : List Value} {rows : List Own} {l : List DeltaD} {x : DeltaD} {q : Option Addr} {c : Nat} (h : Fresh cs rows l) (h1 : x.row.length ≤ c) (h2 : c ≤ maxLen) (h3 : I64 x.time) (h4 : I64 x.n) (h5 : ∀ M w, Elems M w vc x.row) :
    Fresh (cs ++ x.cells q c) (.buf q x.row.length c vc 58 3 :: rows) (l ++ [x]) := by
  refine ⟨by rw [List.length_append, List.length_append, h.len]; simp only [List.length_cons, List.length_nil]; omega, fun j hj => ?_⟩
  rw [List.length_append, List.length_singleton] at hj
  by_cases hlt : j < l.length
  · obtain ⟨q', c', vc', g1, g2, g3, g4, g5, g6, g7⟩ := h.go j hlt
    have hle : (j + 1) * 3 ≤ cs.length := by rw [h.len]; exact Nat.mul_le_mul_right _ hlt
    rw [List.getElem_append_left hlt]
    exact ⟨q', c', vc', by rw [List.drop_append_of_le_length (by omega), List.take_append_of_le_length (by simp; omega), g1], g2, g3, g4, g5, List.mem_cons_of_mem _ g6, g7⟩
  · have : j = l.length := by omega
    subst this
    rw [List.getElem_append_right (Nat.le_refl _)]
    simp only [Nat.sub_self, List.getElem_cons_zero]
    exact ⟨q, c, vc, by rw [← h.len, List.drop_left]; rfl, h1, h2, h3, h4, List.mem_cons_self, h5⟩

set_option maxHeartbeats 1000000 in
theorem rClone_copy {Φ : PW} [Stable Φ] (p : Option Addr) (cap : Nat) (m : MsgD) (hΦ : ∀ M w, Φ M w → Sl M w p m.deltas) (hsm : m.Small) :
    GivesCopy Φ Try.prog F.errataref36_Clone #[m.v p cap] m.deltas (fun s => .agg #[.int .i64 m.kind, .int .i64 m.node, .int .i64 m.inp, .int .i64 m.bucket, .int .i64 m.n, s]) := by
  refine ⟨fun W0 w0 S0 c0 => ?_⟩
  obtain ⟨b, o, cs, hp, c1⟩ := c0.pin (hΦ _ _ c0.phi)
  have hcs := cells_of c1 (fun M w h => h.2)
  refine calls_of (Berrataref36_Clone_run m.kind m.node m.inp m.bucket m.n p m.deltas.length cap (J := fun u w' => ∃ p cap cs rows, u = .agg #[.int .i64 m.kind, .int .i64 m.node, .int .i64 m.inp, .int .i64 m.bucket, .int .i64 m.n, .slice p m.deltas.length cap] ∧ Fresh cs rows m.deltas ∧ Ctx W0 w' (.buf p m.deltas.length cap cs 56 3 :: rows ++ S0) Φ) c1 ?_) fun u w' ⟨p, cap, cs, rows, h1, h2⟩ => ⟨p, cap, cs, rows, by rw [h1], h2⟩
  refine fun _ _ => exI_mk (fun n a0 a1 a2 a3 a4 p' n' c' R' Φ' k => ∃ (i : Nat) (ds : List Value) (rows : List Own), n = i ∧ i ≤ m.deltas.length ∧ n' = i ∧ a0 = m.kind ∧ a1 = m.node ∧ a2 = m.inp ∧ a3 = m.bucket ∧ a4 = m.n ∧ R' = .buf p' i c' ds 56 3 :: rows ++ S0 ∧ Φ' = (fun M w => Φ M w ∧ Pin b o cs m.deltas M w) ∧ k = m.deltas.length - i ∧ Fresh ds rows (m.deltas.take i))
    ⟨⟨.buf none 0 0 [] 56 3 :: [] ++ S0, _, _, inferInstance, fun w G cx => cx.nobuf 56 3, 0, [], [], rfl, Nat.zero_le _, rfl, rfl, rfl, rfl, rfl, rfl, rfl, rfl, rfl, Fresh.nil⟩, ?_⟩
  rintro n _ _ _ _ _ p' i c' R1 Φ1 k _ ⟨_, ds, rows, rfl, hi, rfl, rfl, rfl, rfl, rfl, rfl, rfl, rfl, rfl, hf⟩
  refine Br.intro (fun hlt => ?_) (fun hge => fun w G cx => ?_)
  · have hlt : i < m.deltas.length := by simpa using hlt
    obtain ⟨q, qc, he, hq1, hq2, hq3, hq4⟩ := hcs i hlt
    have hp := hp (by omega)
    have hpin : ∀ {w : World} {R G : List Own}, Ctx W0 w (R ++ G) (fun M w => Φ M w ∧ Pin b o cs m.deltas M w) → Ctx W0 w ([] ++ G) (fun M w => Φ M w ∧ Pin b o cs m.deltas M w) := fun cx => cx.right
    refine ⟨[], fun M w => Φ M w ∧ Pin b o cs m.deltas M w, inferInstance, fun w G cx => hpin cx, by omega, ptrK_intro b o hp ⟨by omega, ptrK_intro b o hp ⟨by omega, ptrK_intro b o hp ⟨m.deltas[i].time, fun w G cx => ⟨_, pin_rowAt cx.phi.2 hlt he 0 (by simp), rfl⟩, q, m.deltas[i].row.length, qc, fun w G cx => ⟨q, m.deltas[i].row.length, qc, pin_rowAt cx.phi.2 hlt he 1 (by simp), rfl⟩, m.deltas[i].n, fun w G cx => ⟨_, pin_rowAt cx.phi.2 hlt he 2 (by simp), rfl⟩, fun k1 => ⟨fun w G cx => hpin (R := .blk k1 [] 58 :: _) cx, fun w G cx => ?_⟩⟩⟩⟩⟩
    obtain ⟨p2, cap2, w2, vc, hrun, cx2⟩ := Ctx.cloned (P := Try.prog) (ts := 54) (ty := 54) (kb := #[false, false]) (bytes := 32) (c2 := qc) cx (by kernel_rfl) val_one (fun M w h => pin_row h.2 hlt he) (hsm.2 _ (List.getElem_mem hlt)) (by omega)
    have hvc : ∀ M w, Elems M w vc m.deltas[i].row := fun M w => vals_any cx2.phi.2
    obtain ⟨_, hc1, hc2⟩ := cx2.bufLen 0 rfl
    refine ⟨p2, m.deltas[i].row.length, cap2, w2, hrun, .buf p2 m.deltas[i].row.length cap2 vc 58 3 :: (.buf p' i c' ds 56 3 :: rows ++ S0), fun M w => Φ M w ∧ Pin b o cs m.deltas M w, inferInstance, cx2.fst, fun w G cx => hpin cx, fun k2 => ⟨fun w G cx => hpin (R := .blk k2 _ 56 :: _) cx, fun w G cx => ?_⟩⟩
    have cxp : Ctx W0 w (.blk k2 (m.deltas[i].cells p2 cap2) 56 :: .buf p' i c' ds 56 3 :: (.buf p2 m.deltas[i].row.length cap2 vc 58 3 :: (rows ++ S0) ++ G)) (fun M w => Φ M w ∧ Pin b o cs m.deltas M w) := cx.perm (List.Perm.cons _ (List.Perm.swap _ _ _))
    have hn8 := hsm.1
    obtain ⟨p3, cap3, w3, hrun3, _, cx3⟩ := Ctx.app1 (P := Try.prog) (ts := 29) (ty := 29) (kb := #[false, false]) (size := 3) (bytes := 40) cxp (by kernel_rfl) (by omega) rfl rfl (by omega) (by omega)
    refine ⟨p3, i + 1, cap3, w3, hrun3, .buf p3 (i + 1) cap3 (ds ++ m.deltas[i].cells p2 cap2) 56 3 :: (.buf p2 m.deltas[i].row.length cap2 vc 58 3 :: rows) ++ S0, fun M w => Φ M w ∧ Pin b o cs m.deltas M w, inferInstance, cx3, fun w G cx => hpin cx, by unfold I64; omega, _, fun M w => Φ M w ∧ Pin b o cs m.deltas M w, m.deltas.length - (i + 1), inferInstance, fun w G cx => cx, ⟨i + 1, _, _, rfl, hlt, rfl, rfl, rfl, rfl, rfl, rfl, rfl, rfl, rfl, ?_⟩, by omega⟩
    rw [List.take_succ_eq_append_getElem hlt]
    exact hf.snoc hc1 hc2 hq3 hq4 hvc
  · have hge : i = m.deltas.length := Nat.le_antisymm hi (by simpa using hge)
    subst hge
    rw [List.take_length] at hf
    exact ⟨p', c', ds, rows, rfl, hf, cx.left.fst⟩

/-! ### spoil -/
/-- the cells of deltas that are owned with their rows, whatever stands in them -/
structure Loose (cs : List Value) (rows : List Own) (l : List DeltaD) : Prop where
  len : cs.length = l.length * 3
  go : ∀ j, (hj : j < l.length) → ∃ q c vc t, cs[j * 3]? = some (.int .i64 t) ∧ cs[j * 3 + 1]? = some (.slice q l[j].row.length c) ∧ Own.buf q l[j].row.length c vc 58 3 ∈ rows ∧ vc.length = l[j].row.length * 3 ∧ ∀ i, i < l[j].row.length → ∃ x, vc[i * 3 + 1]? = some (.int .i64 x)

theorem Fresh.loose {cs : List Value} {rows : List Own} {l : List DeltaD} (h : Fresh cs rows l) : Loose cs rows l := by
  refine ⟨h.len, fun j hj => ?_⟩
  obtain ⟨q, c, vc, h1, _, _, _, _, h2, h3⟩ := h.go j hj
  obtain ⟨e1, e2, _⟩ := take3.1 h1
  refine ⟨q, c, vc, _, e1, e2, h2, (h3 [] default).1, fun i hi => ?_⟩
  obtain ⟨_, _, e, ⟨rfl, _⟩, _, _, rfl, ⟨rfl, _⟩, rfl, _⟩ := (h3 [] default).2 i hi
  exact ⟨_, (take3.1 e).2.1⟩

end Go.Proofs.Yticgmbmghnikeaa
