/-
  The walk of small.
-/
import Derived.Test.YtflanndhfdfemaaWg
set_option linter.unusedVariables false
set_option linter.unusedSimpArgs false
namespace Go.Proofs.Ytflanndhfdfemaa
open Go.Vc

theorem Stable.less {Φ : PW} [Stable Φ] {D M : List Nat} {w : World} (h : Φ (D ++ M) w) : Φ M w :=
  Stable.step (Φ := Φ) ⟨Chg.refl _ _, fun b hb => .inl (List.mem_append_right _ hb)⟩ h

def exN0 : NodeD := ⟨0, [], ByteArray.mk #[], 0, ⟨0⟩, 0, 0, 0, [], [], 0, 0, 0, ⟨0⟩, ⟨0⟩, []⟩
def exN1 (s : Int) : NodeD := ⟨4, [0], ByteArray.mk #[], 0, ⟨0⟩, 0, s, 0, [], [], 0, 0, 0, ⟨0⟩, ⟨0⟩, []⟩
def exCfg : CfgC := ⟨2, 0, 10, 5, 3, 20⟩
def exBnd : List BndD := [⟨0, 0, 6, 0⟩, ⟨59, 59, 360, 474⟩]

theorem ex_an1 : analyzeD [exN0, exN1 60] exCfg = (exBnd, -1, 0) := by kernel_rfl
theorem ex_an2 : analyzeD [exN0, exN1 (-1)] exCfg = ([], 1, 14) := by kernel_rfl

theorem ex_ok : ∀ y ∈ exBnd, y.Ok := by
  rw [← show (analyzeD [exN0, exN1 60] exCfg).1 = exBnd by rw [ex_an1]]
  exact analyze_ok _ _

abbrev exC0 : List Value := [.int .i64 0, .slice none 0 0, .string (ByteArray.mk #[]), .int .i64 0, .slice none 0 0, .int .i64 0, .int .i64 0, .int .i64 0, .slice none 0 0, .slice none 0 0, .int .i64 0, .int .i64 0, .int .i64 0, .slice none 0 0, .slice none 0 0, .slice none 0 0]
abbrev exC1 (k0 : Nat) (s : Int) : List Value := [.int .i64 4, .slice (some ⟨k0, 0, none⟩) 1 1, .string (ByteArray.mk #[]), .int .i64 0, .slice none 0 0, .int .i64 0, .int .i64 s, .int .i64 0, .slice none 0 0, .slice none 0 0, .int .i64 0, .int .i64 0, .int .i64 0, .slice none 0 0, .slice none 0 0, .slice none 0 0]

theorem i0 : I64 0 := by unfold I64; omega
theorem str0 : (ByteArray.mk #[]).size ≤ maxLen := by decide

theorem ex_rep0 (M : List Nat) (w : World) : Gv.rep M w exC0 exN0 :=
  ⟨[_], _, rfl, ⟨rfl, i0⟩, [_], _, rfl, ⟨none, 0, rfl, Nat.le_refl _, Nat.zero_le _, Sl.nil⟩, [_], _, rfl, ⟨rfl, str0⟩, [_], _, rfl, ⟨rfl, i0⟩, [_], _, rfl, ⟨none, 0, rfl, Nat.le_refl _, Nat.zero_le _⟩, [_], _, rfl, ⟨rfl, i0⟩, [_], _, rfl, ⟨rfl, i0⟩, [_], _, rfl, ⟨rfl, i0⟩,
    [_], _, rfl, ⟨none, 0, rfl, Nat.le_refl _, Nat.zero_le _, Sl.nil⟩, [_], _, rfl, ⟨none, 0, rfl, Nat.le_refl _, Nat.zero_le _, Sl.nil⟩, [_], _, rfl, ⟨rfl, i0⟩, [_], _, rfl, ⟨rfl, i0⟩, [_], _, rfl, ⟨rfl, i0⟩, [_], _, rfl, ⟨none, 0, rfl, Nat.le_refl _, Nat.zero_le _⟩, [_], _, rfl, ⟨none, 0, rfl, Nat.le_refl _, Nat.zero_le _⟩,
    none, 0, rfl, Nat.le_refl _, Nat.zero_le _, Sl.nil⟩

theorem ex_rep1 {M : List Nat} {w : World} {k0 : Nat} {s : Int} (hs : I64 s) (h : Sl M w (some ⟨k0, 0, none⟩) ([0] : List Int)) : Gv.rep M w (exC1 k0 s) (exN1 s) :=
  ⟨[_], _, rfl, ⟨rfl, by show I64 4; unfold I64; omega⟩, [_], _, rfl, ⟨some ⟨k0, 0, none⟩, 1, rfl, Nat.le_refl _, by show 1 ≤ maxLen; decide, h⟩, [_], _, rfl, ⟨rfl, str0⟩, [_], _, rfl, ⟨rfl, i0⟩, [_], _, rfl, ⟨none, 0, rfl, Nat.le_refl _, Nat.zero_le _⟩, [_], _, rfl, ⟨rfl, i0⟩, [_], _, rfl, ⟨rfl, hs⟩, [_], _, rfl, ⟨rfl, i0⟩,
    [_], _, rfl, ⟨none, 0, rfl, Nat.le_refl _, Nat.zero_le _, Sl.nil⟩, [_], _, rfl, ⟨none, 0, rfl, Nat.le_refl _, Nat.zero_le _, Sl.nil⟩, [_], _, rfl, ⟨rfl, i0⟩, [_], _, rfl, ⟨rfl, i0⟩, [_], _, rfl, ⟨rfl, i0⟩, [_], _, rfl, ⟨none, 0, rfl, Nat.le_refl _, Nat.zero_le _⟩, [_], _, rfl, ⟨none, 0, rfl, Nat.le_refl _, Nat.zero_le _⟩,
    none, 0, rfl, Nat.le_refl _, Nat.zero_le _, Sl.nil⟩

/-- the two nodes of the example, laid aside -/
def exΦ (W : World) (Φ : PW) (k0 k1 : Nat) (s : Int) : PW := fun M w =>
  (fun M w => Φ ([k1] ++ M) w ∧ Parked W (.blk k1 (exC0 ++ exC1 k0 s) 44) M w) ([k0] ++ M) w ∧ Parked W (.blk k0 [.int .i64 0] 3) M w

instance exΦ_stable (W : World) (Φ : PW) [Stable Φ] (k0 k1 : Nat) (s : Int) : Stable (exΦ W Φ k0 k1 s) :=
  have h1 : Stable (fun M w => Φ ([k1] ++ M) w) := instStableMore [k1] Φ
  have h2 : Stable (fun M w => Φ ([k1] ++ M) w ∧ Parked W (.blk k1 (exC0 ++ exC1 k0 s) 44) M w) := instStableAnd _ _
  have h3 : Stable (fun M w => (fun M w => Φ ([k1] ++ M) w ∧ Parked W (.blk k1 (exC0 ++ exC1 k0 s) 44) M w) ([k0] ++ M) w) := instStableMore [k0] (fun M w => Φ ([k1] ++ M) w ∧ Parked W (.blk k1 (exC0 ++ exC1 k0 s) 44) M w)
  instStableAnd _ _

theorem ex_sl {W : World} {Φ : PW} [Stable Φ] {k0 k1 : Nat} {s : Int} (hs : I64 s) {M : List Nat} {w : World} (h : exΦ W Φ k0 k1 s M w) : Sl M w (some ⟨k1, 0, none⟩) [exN0, exN1 s] := by
  obtain ⟨⟨_, h2⟩, h3⟩ := h
  have h4 : Parked W (.blk k1 (exC0 ++ exC1 k0 s) 44) M w := Stable.less h2
  exact h4.blkSl (.two (ex_rep0 _ _) (ex_rep1 hs (h3.blkSl (.one ⟨rfl, i0⟩))))

theorem small_g : Gives Try.prog F.erratalaw20_small #[] (.bool true) := by
  refine gives_of Berratalaw20_small_run fun W R Φ _ => ?_
  intro _ k0 k1 _ w F cx
  have h1 := Analyze_buf (Φ := exΦ W Φ k0 k1 60) none 0 0 (some ⟨k1, 0, none⟩) 2 [exN0, exN1 60] exCfg (fun M w h => ex_sl (by unfold I64; omega) h) (by decide)
  have h2 := Analyze_buf (Φ := exΦ W Φ k0 k1 (-1)) none 0 0 (some ⟨k1, 0, none⟩) 2 [exN0, exN1 (-1)] exCfg (fun M w h => ex_sl (by unfold I64; omega) h) (by decide)
  rw [ex_an1] at h1
  rw [ex_an2] at h2
  have cx : Ctx W w (.blk k1 (exC0 ++ exC1 k0 60) 44 :: .blk k0 [.int .i64 0] 3 :: (R ++ F)) Φ := cx
  refine h1.use cx.park.park fun p6 k8 w cx => ⟨p6, _, k8, _, _, rfl, .blk k1 (exC0 ++ exC1 k0 60) 44 :: .blk k0 [.int .i64 0] 3 :: .buf p6 2 k8 (bndC exBnd) 37 4 :: R, Φ, inferInstance, ?_, by omega, fun w F cx => ⟨cx.can 0 rfl (by simp), fun w' e => ?_⟩⟩
  · exact Ctx.unpark (o := .blk k1 (exC0 ++ exC1 k0 60) 44) (Ctx.unpark (o := .blk k0 [.int .i64 0] 3) cx)
  · have cx : Ctx W w' (.blk k1 (exC0 ++ exC1 k0 (-1)) 44 :: .blk k0 [.int .i64 0] 3 :: .buf p6 2 k8 (bndC exBnd) 37 4 :: (R ++ F)) Φ := cx.put 0 e rfl
    refine ⟨.blk k1 (exC0 ++ exC1 k0 (-1)) 44 :: .blk k0 [.int .i64 0] 3 :: .buf p6 2 k8 (bndC exBnd) 37 4 :: R, Φ, inferInstance, cx, fun w F cx => ?_⟩
    have cx : Ctx W w (.blk k1 (exC0 ++ exC1 k0 (-1)) 44 :: .blk k0 [.int .i64 0] 3 :: .buf p6 2 k8 (bndC exBnd) 37 4 :: (R ++ F)) Φ := cx
    refine h2.use cx.park.park fun p22 k24 w cx => ?_
    have cx : Ctx W w (.buf p6 2 k8 (bndC exBnd) 37 4 :: (R ++ F)) Φ := (Ctx.unpark (o := .blk k1 (exC0 ++ exC1 k0 (-1)) 44) (Ctx.unpark (o := .blk k0 [.int .i64 0] 3) cx)).drop1.drop1.drop1
    obtain ⟨c1, hs1, _⟩ := Ctx.freeze (α := BndD) (l := exBnd) cx (bnd_elems ex_ok _ _)
    refine ⟨p22, _, k24, _, _, rfl, R, fun M w => Φ M w ∧ Sl M w p6 exBnd, inferInstance, c1.add hs1, Br.intro (fun _ => Br.intro (fun _ => fun k29 w F cx => ?_) (fun h => by simp at h)) (fun h => by simp at h)⟩
    obtain ⟨c2, hs2⟩ := Ctx.freezeBlk (α := BndD) (l := exBnd) (S := R ++ F) cx (bnd_elems ex_ok _ _)
    refine (Same_in p6 k8 (some ⟨k29, 0, none⟩) 2 exBnd exBnd (fun _ _ h => h.1.2) (fun _ _ h => h.2) (by decide)).use (Φ := fun M w => (Φ M w ∧ Sl M w p6 exBnd) ∧ Sl M w (some ⟨k29, 0, none⟩) exBnd) (c2.add hs2) fun w cx => ⟨_, rfl, R, Φ, inferInstance, cx.fst.fst, Br.intro (fun _ => Br.intro (fun _ => fun w F cx => ⟨rfl, cx.left⟩) (fun h => by simp at h)) (fun h => by simp [sameB] at h)⟩

end Go.Proofs.Ytflanndhfdfemaa
