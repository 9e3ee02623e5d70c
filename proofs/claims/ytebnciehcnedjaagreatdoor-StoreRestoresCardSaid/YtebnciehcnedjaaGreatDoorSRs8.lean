/-
  Get, New, Apply.
-/
import Derived.Test.YtebnciehcnedjaaGreatDoorSRs7
import Derived.Test.YtebnciehcnedjaaGreatDoorSRs6
import Derived.Shelf.Strings.Builder1
import Derived.Shelf.Small.Strs
import Derived.Shelf.Small.Wraps
import Derived.Shelf.Strconv.Atoi
import Derived.Shelf.Strconv.Itoa0
import Derived.Shelf.Strconv.Itoa1
import Derived.Shelf.LaysM
import Derived.Shelf.Strconv.Itoa2
import Derived.Shelf.Strconv.Itoa3
import Derived.Shelf.Strconv.AtoiErrFast
import Derived.Shelf.Strconv.ParseIntEmpty
import Derived.Shelf.Strconv.AtoiFail
import Derived.Shelf.Strconv.Clone
import Derived.Shelf.Strconv.SyntaxError
import Derived.Shelf.LaysC
import Derived.Shelf.Strconv.ToError
import Derived.Shelf.Strconv.Lower
import Derived.Shelf.Strconv.ParseUint10
import Derived.Shelf.Strconv.ParseUint10Empty
import Derived.Shelf.Strconv.ParseUint10Any
import Derived.Shelf.Strconv.ParseInt10
import Derived.Shelf.Strconv.AtoiLong
import Derived.Shelf.Strconv.AtoiInnerAll
import Derived.Shelf.Strconv.RangeError
import Derived.Shelf.Strconv.ToErrorRange
import Derived.Shelf.Strconv.AtoiAll
import Derived.Shelf.Strings.Search1
import Derived.Shelf.Strings.Prefix
import Derived.Test.YtebnciehcnedjaaGreatDoorRows
import Derived.Test.YtebnciehcnedjaaGreatDoorSRs4
import Derived.Lib.ItoaNum
import Derived.Stop.IfaceNil
import Derived.Lib.AtoiErrMem
import Derived.Lib.AtoiAllCases

section
set_option linter.unusedVariables false
set_option linter.unusedSimpArgs false
namespace Go.Proofs.YtebnciehcnedjaaGreatDoor
open Go.Vc


section
variable {Φ : PW} {q : TO} {s : StD}
end

/-- a new store -/
theorem New_use {W w : World} {S : List Own} {Φ : PW} [Stable Φ] (cx : Ctx W w S Φ) {K : Ending → World → Prop}
    (hK : ∀ q w', StQ q stNew → Ctx W w' (stO q stNew S) (fun M w => Φ M w ∧ stF q stNew M w) → K (.returned (.pointer (some ⟨q.sb, 0, none⟩))) w') : Calls Tryz.prog F.store_New #[] w K := by
  refine (Bstore_New_run (J := fun u w' => K (.returned u) w') cx ?_).mono fun e w' ⟨v, he, hj⟩ => by rw [he]; exact hj
  intro k w G cx
  have c1 := ((((cx.left.nobuf 46 3).nobuf 69 2).nobuf 84 1))
  refine hK ⟨k, none, 0, none, 0, [], none, 0, []⟩ w ⟨rfl, fun x hx => by cases hx⟩ ?_
  refine (c1.perm ?_).weak fun M w h => ⟨h, Elems.nil, fun x hx => by cases hx⟩
  -- .buf lev :: .buf tab :: .buf log :: .blk :: S
  show (Own.buf none 0 0 [] 84 1 :: Own.buf none 0 0 [] 69 2 :: Own.buf none 0 0 [] 46 3 :: Own.blk k [.slice none 0 0, .slice none 0 0, .int .i64 0, .slice none 0 0, .int .i64 0] 77 :: S).Perm (Own.blk k [.slice none 0 0, .slice none 0 0, .int .i64 0, .slice none 0 0, .int .i64 0] 77 :: Own.buf none 0 0 [] 84 1 :: Own.buf none 0 0 [] 69 2 :: Own.buf none 0 0 [] 46 3 :: S)
  exact List.perm_middle (l₁ := [Own.buf none 0 0 [] 84 1, Own.buf none 0 0 [] 69 2, Own.buf none 0 0 [] 46 3])
end Go.Proofs.YtebnciehcnedjaaGreatDoor
end

/-
  The changelog: Since; Trim in plain Lean.
-/
section
set_option linter.unusedVariables false
set_option linter.unusedSimpArgs false
namespace Go.Proofs.YtebnciehcnedjaaGreatDoor
open Go.Vc


theorem chgD_cells {M : List Nat} {w : World} {cs : List Value} {x : ChgD} (h : Gv.rep M w cs x) : cs = x.cells := by
  obtain ⟨_, _, rfl, ⟨rfl, _⟩, _, _, rfl, ⟨rfl, _⟩, rfl, _⟩ := h
  rfl
theorem chgD_one (M : List Nat) (w : World) (cs : List Value) (x : ChgD) (h : Gv.rep M w cs x) : (cs.all fun u => oneC u) = true := by
  rw [chgD_cells h]; rfl
theorem CloneC_use {W w : World} {S : List Own} {Φ : PW} [Stable Φ] {p : Option Addr} {cap : Nat} {l : List ChgD} (hΦ : ∀ M w, Φ M w → Sl M w p l) (hl : l.length < 100000000) (cx : Ctx W w S Φ) {K : Ending → World → Prop}
    (hK : ∀ p' cap' cs w', Ctx W w' (.buf p' l.length cap' cs 46 3 :: S) (fun M w => Φ M w ∧ Elems M w cs l) → K (.returned (.slice p' l.length cap')) w') :
    Calls Tryz.prog F.slices_Clone_api_Change_api_Change #[.slice p l.length cap] w K := by
  have ht := (hΦ _ _ cx.phi).there
  refine (Bslices_Clone_api_Change_api_Change_run p l.length cap (J := fun u w' => K (.returned u) w') cx ?_).mono fun e w' ⟨v, he, hj⟩ => by rw [he]; exact hj
  refine Br.intro (fun hn => fun w G cx => ?_) (fun _ => fun k w G cx => ?_)
  · have h0 : l = [] := by
      rcases Nat.eq_zero_or_pos l.length with h | h
      · exact List.eq_nil_of_length_eq_zero h
      · obtain ⟨b, o, e⟩ := ht h
        rw [e] at hn
        cases hn
    subst h0
    exact hK none 0 [] w ((cx.left.nobuf 46 3).add Elems.nil)
  · obtain ⟨p', cap', w', cs, hr, cx2⟩ := Ctx.cloned (α := ChgD) cx (P := Tryz.prog) (ts := 31) (ty := 31) (kb := #[false, false]) (c2 := cap) (bytes := 40) (by kernel_rfl) chgD_one hΦ hl (by omega)
    have hst : Stable (fun M w => Φ M w ∧ Elems M w cs l) := instStableAnd Φ (fun M w => Elems M w cs l)
    exact ⟨p', _, cap', w', hr, .buf p' l.length cap' cs 46 3 :: S, _, hst, cx2, fun w G cx => hK p' cap' cs w cx.left⟩

/-- the changelog holds the changes behind the cut -/
structure StL (s : StD) : Prop where
  le : s.cut ≤ s.seq
  len : (s.log.length : Int) = s.seq - s.cut
  num : ∀ j (h : j < s.log.length), s.log[j].seq = s.cut + 1 + j
theorem new_l : StL stNew := ⟨Int.le_refl _, rfl, fun j h => by cases h⟩
theorem put_l {s : StD} (h : StL s) (k v : ByteArray) : StL (putS s k v) := by
  have h1 := h.le
  have h2 := h.len
  have e : (putS s k v).log = s.log ++ [(⟨s.seq + 1, k, v⟩ : ChgD)] := rfl
  refine ⟨by show s.cut ≤ s.seq + 1; omega, by rw [e, List.length_append]; show ((s.log.length + 1 : Nat) : Int) = s.seq + 1 - s.cut; omega, fun j hj => ?_⟩
  show ((putS s k v).log[j]).seq = s.cut + 1 + j
  simp only [e]
  rw [e, List.length_append] at hj
  rcases Nat.lt_or_ge j s.log.length with h3 | h3
  · rw [List.getElem_append_left h3]; exact h.num j h3
  · have : j = s.log.length := by simp at hj; omega
    subst this
    rw [List.getElem_append_right (Nat.le_refl _)]
    simp
    omega
section
variable {Φ : PW} {q : TO} {s : StD}
theorem Since_no [Stable Φ] [hΦ : Has Φ (StR q s)] {n : Int} (h : n < s.cut ∨ s.seq < n) : GivesIn Φ Tryz.prog F.store_Store_Since #[.pointer (some ⟨q.sb, 0, none⟩), .int .i64 n] (.tuple #[.slice none 0 0, .int .i64 3]) := by
  refine gives_in (Bstore_Store_Since_run q.sb 0 n) fun W R => fun w G cx => ?_
  refine ⟨s.cut, (hΦ.go _ _ cx.phi).1.2.1 4 (by show 4 < 5; decide), s.seq, fun _ => (hΦ.go _ _ cx.phi).1.2.1 2 (by show 2 < 5; decide), Br.intro (fun _ => fun w G cx => ⟨rfl, cx.left⟩) (fun h2 => ?_)⟩
  rw [Bool.or_eq_false_iff] at h2
  have := of_decide_eq_false h2.1
  have := of_decide_eq_false h2.2
  omega
theorem Since_sl [Stable Φ] [hΦ : Has Φ (StR q s)] (hC : StC q s) (hL : StL s) (hlg : s.log.length ≤ 1000000) {n : Int} (h1 : s.cut ≤ n) (h2 : n ≤ s.seq) : GivesSl Φ Tryz.prog F.store_Store_Since #[.pointer (some ⟨q.sb, 0, none⟩), .int .i64 n] (s.log.drop (n - s.cut).toNat) (fun v => .tuple #[v, .int .i64 0]) := by
  have hlen := hL.len
  obtain ⟨d, hd⟩ : ∃ d : Nat, (n - s.cut).toNat = d := ⟨_, rfl⟩
  have hdl : d ≤ s.log.length := by omega
  have hdc : d ≤ q.gc := Nat.le_trans hdl hC.log.1
  rw [hd]
  refine gives_sl (Bstore_Store_Since_run q.sb 0 n) fun W R => fun w G cx => ?_
  refine ⟨s.cut, (hΦ.go _ _ cx.phi).1.2.1 4 (by show 4 < 5; decide), s.seq, fun _ => (hΦ.go _ _ cx.phi).1.2.1 2 (by show 2 < 5; decide), Br.intro (fun h => ?_) (fun _ => ?_)⟩
  · rw [Bool.or_eq_true] at h
    rcases h with h | h
    · have := of_decide_eq_true h; omega
    · have := of_decide_eq_true h; omega
  clear cx
  refine ⟨[], Φ, inferInstance, fun w G cx => Ctx.right (S := R) cx, q.gp, s.log.length, q.gc, fun w G cx => ⟨_, _, _, (hΦ.go _ _ cx.phi).1.2.1 3 (by show 3 < 5; decide), rfl⟩, s.cut, fun w G cx => ⟨_, (hΦ.go _ _ cx.phi).1.2.1 4 (by show 4 < 5; decide), rfl⟩, by unfold I64; omega, ⟨by omega, by omega, hC.log.1⟩, fun w G cx => ?_⟩
  rw [hd]
  have hsl : ∀ M w, Φ M w → Sl M w (subPtr q.gp 3 d q.gc) (s.log.drop d) := fun M w h => addr_sub (hΦ.go M w h).2.2.2 d hC.log.1
  have hln : s.log.length - d = (s.log.drop d).length := by rw [List.length_drop]
  rw [hln]
  refine CloneC_use hsl (by rw [List.length_drop]; omega) cx fun p' c' cs w cx => ?_
  obtain ⟨c1, hs, _, g1, g2⟩ := Ctx.freeze (α := ChgD) cx cx.phi.2
  have hst : Stable (fun M w => Φ M w ∧ Sl M w p' (s.log.drop d)) := instStableAnd Φ (fun M w => Sl M w p' (s.log.drop d))
  exact ⟨p', _, c', rfl, R, _, hst, (c1.add hs).weak fun M w h => ⟨h.1.1, h.2⟩, fun w G cx => ⟨p', c', rfl, g1, g2, cx.left⟩⟩
end
end Go.Proofs.YtebnciehcnedjaaGreatDoor
end

/-
  The conditions of the walks of some functions, one formula each; 'B<f>_run' says that they suffice. The formulas are printed by a program; the kernel compares them with the functions' code.
-/
section
namespace Go.Proofs.YtebnciehcnedjaaGreatDoor
set_option linter.unusedVariables false
set_option linter.unusedSimpArgs false
set_option maxRecDepth 100000
open Go.Vc

/-- (*store.Store).Scan -/
def Bstore_Store_Scan (sB sO : Nat) (prefixx : ByteArray) (W : World) (R : List Own) (Φ : PW) (J : Value → World → Prop) : Prop :=
  ∀ (k0 : Nat) (w1 : World) (R2 : List Own), Ctx W w1 (Own.blk k0 [Value.string prefixx] 9 :: R ++ R2) Φ → Calls Tryz.prog F.store_Store_runs #[Value.pointer (some (Addr.mk sB sO none))] w1
  fun (e3 : Ending) (w4 : World) => ∃ (p5 : Option Addr), ∃ (k6 : Nat), ∃ (k7 : Nat), e3 = Ending.returned (Value.slice p5 k6 k7) ∧ ∃ (R8 : List Own), ∃ (Φ9 : PW), Stable Φ9 ∧ Ctx W w4 (R8 ++
  R2) Φ9 ∧ ∀ (w10 : World) (R11 : List Own), Ctx W w10 (R8 ++ R11) Φ9 → Calls Tryz.prog F.store_merge #[Value.slice p5 k6 k7] w10 fun (e12 : Ending) (w13 : World) => ∃ (p14 : Option Addr), ∃
  (k15 : Nat), ∃ (k16 : Nat), e12 = Ending.returned (Value.slice p14 k15 k16) ∧ ∃ (R17 : List Own), ∃ (Φ18 : PW), Stable Φ18 ∧ Ctx W w13 (R17 ++ R11) Φ18 ∧ ∀ (w19 : World) (R20 : List Own),
  Ctx W w19 (R17 ++ R20) Φ18 → Calls Tryz.prog F.store_there #[Value.slice p14 k15 k16] w19 fun (e21 : Ending) (w22 : World) => ∃ (p23 : Option Addr), ∃ (k24 : Nat), ∃ (k25 : Nat), e21 =
  Ending.returned (Value.slice p23 k24 k25) ∧ ∃ (R26 : List Own), ∃ (Φ27 : PW), Stable Φ27 ∧ Ctx W w22 (R26 ++ R20) Φ27 ∧ ∀ (w28 : World) (R29 : List Own), Ctx W w28 (R26 ++ R29) Φ27 → Calls
  Tryz.prog F.slices_DeleteFunc_store_run_api_Pair #[Value.slice p23 k24 k25, Value.func (Fn.func 68) #[] #[Value.pointer (some (Addr.mk k0 0 none))]] w28 fun (e30 : Ending) (w31 : World) =>
  ∃ (p32 : Option Addr), ∃ (k33 : Nat), ∃ (k34 : Nat), e30 = Ending.returned (Value.slice p32 k33 k34) ∧ ∃ (R35 : List Own), ∃ (Φ36 : PW), Stable Φ36 ∧ Ctx W w31 (R35 ++ R29) Φ36 ∧ ∀ (w37 :
  World) (R38 : List Own), Ctx W w37 (R35 ++ R38) Φ36 → J (Value.slice p32 k33 k34) w37

theorem Bstore_Store_Scan_run (sB sO : Nat) (prefixx : ByteArray) {W w : World} {R : List Own} {Φ : PW} [Stable Φ] {J : Value → World → Prop} (c : Ctx W w R Φ) (h : Bstore_Store_Scan sB sO prefixx W R Φ J) : Calls Tryz.prog F.store_Store_Scan #[.pointer (some ⟨sB, sO, none⟩), .string prefixx] w fun e w' => ∃ v, e = .returned v ∧ J v w' :=
  vcFS_sound (H := { keep := some [0, 3, 4] }) (by rw [show vcFS Tryz.prog W { keep := some [0, 3, 4] } F.store_Store_Scan #[.pointer (some ⟨sB, sO, none⟩), .string prefixx] R Φ J = Bstore_Store_Scan sB sO prefixx W R Φ J by kernel_rfl]; exact h) c

/-- (*store.Store).Scan$1 -/
-- known blocks: 2 p
def Bstore_Store_Scan_1 (p0 p1 : ByteArray) (kB kO : Nat) (W : World) (R : List Own) (Φ : PW) (J : Value → World → Prop) : Prop :=
  ∀ (b : Nat) (w0 : World) (R1 : List Own), Ctx W w0 (R ++ R1) Φ → ∃ (s2 : ByteArray), w0.cell? (Addr.mk kB kO none) = some (Value.string s2) ∧ ∀ (w3 : World) (R4 : List Own), Ctx W w3 (R ++
  R4) Φ → Calls Tryz.prog F.strings_HasPrefix #[Value.string p0, Value.string s2] w3 fun (e5 : Ending) (w6 : World) => ∃ (c7 : Bool), e5 = Ending.returned (Value.bool c7) ∧ ∃ (R8 : List Own),
  ∃ (Φ9 : PW), Stable Φ9 ∧ Ctx W w6 (R8 ++ R4) Φ9 ∧ ∀ (w10 : World) (R11 : List Own), Ctx W w10 (R8 ++ R11) Φ9 → J (Value.bool !c7) w10

theorem Bstore_Store_Scan_1_run (p0 p1 : ByteArray) (kB kO : Nat) {W w : World} {R : List Own} {Φ : PW} [Stable Φ] {J : Value → World → Prop} (c : Ctx W w R Φ) (h : Bstore_Store_Scan_1 p0 p1 kB kO W R Φ J) : Calls Tryz.prog F.store_Store_Scan_1 #[.agg #[.string p0, .string p1], .pointer (some ⟨kB, kO, none⟩)] w fun e w' => ∃ v, e = .returned v ∧ J v w' :=
  vcFS_sound (H := { keep := some [1, 2, 3], track := [2] }) (by rw [show vcFS Tryz.prog W { keep := some [1, 2, 3], track := [2] } F.store_Store_Scan_1 #[.agg #[.string p0, .string p1], .pointer (some ⟨kB, kO, none⟩)] R Φ J = Bstore_Store_Scan_1 p0 p1 kB kO W R Φ J by kernel_rfl]; exact h) c

end Go.Proofs.YtebnciehcnedjaaGreatDoor
end

/-
  Scan, Len.
-/
section
set_option linter.unusedVariables false
set_option linter.unusedSimpArgs false
namespace Go.Proofs.YtebnciehcnedjaaGreatDoor
open Go.Vc


def preP (pre key : ByteArray) : Bool := decide ((pre.size : Int) ≤ (key.size : Int)) && decide (key.extract 0 pre.size = pre)
def scanS (s : StD) (pre : ByteArray) : Run := (allS s).filter fun x => preP pre x.key
theorem pre_g (x pre : ByteArray) : Gives Tryz.prog F.strings_HasPrefix #[.string x, .string pre] (.bool (preP pre x)) := by
  have h : Gives Tryz.prog F.internal_stringslite_HasPrefix #[.string x, .string pre] (.bool (preP pre x)) :=
    gives_of (Binternal_stringslite_HasPrefix_run x pre) fun W R Φ _ => fun w G cx => ⟨fun h => ⟨by omega, of_decide_eq_true h⟩, fun w G cx => ⟨by unfold preP; rw [Int.toNat_natCast], cx.left⟩⟩
  exact gives_of (Bstrings_HasPrefix_run x pre) fun W R Φ _ => fun w G cx => h.use cx fun w cx => ⟨_, rfl, _, _, inferInstance, cx, fun w G cx => ⟨rfl, cx.left⟩⟩
theorem sl_str {M : List Nat} {w : World} {k : Nat} {x : ByteArray} (h : Sl M w (some ⟨k, 0, none⟩) [x]) : w.cell? ⟨k, 0, none⟩ = some (.string x) := by
  obtain ⟨b', o', cs, e, _, h3, h4⟩ := h 0 (by simp)
  cases e
  obtain ⟨rfl, _⟩ := h4
  have := h3 0 (by simp)
  simpa using this
theorem scan_fn {Φ : PW} [Stable Φ] {k : Nat} {pre : ByteArray} (hΦ : ∀ M w, Φ M w → Sl M w (some ⟨k, 0, none⟩) [pre]) : DelFn Φ F.store_Store_Scan_1 #[.pointer (some ⟨k, 0, none⟩)] (fun y => !preP pre y.key) :=
  ⟨by kernel_rfl, fun x => gives_in (Bstore_Store_Scan_1_run x.key x.val k 0) fun W R => fun b w G cx => ⟨pre, sl_str (hΦ _ _ cx.phi), fun w G cx => (pre_g x.key pre).use cx fun w cx => ⟨_, rfl, R, Φ, inferInstance, cx, fun w G cx => ⟨rfl, cx.left⟩⟩⟩⟩
theorem there_buf {W w : World} {S : List Own} {Φ : PW} [Stable Φ] {p : Option Addr} {cap : Nat} {l : Run} (hΦ : ∀ M w, Φ M w → Sl M w p l) (hl : l.length < 100000000) (cx : Ctx W w S Φ) {K : Ending → World → Prop}
    (hK : ∀ p' cap' es w', es.map PE.d = thereP l → Ctx W w' (bufE p' cap' es :: S) Φ → K (.returned (.slice p' es.length cap')) w') : Calls Tryz.prog F.store_there #[.slice p l.length cap] w K := by
  refine (Bstore_there_run p l.length cap (J := fun u w' => K (.returned u) w') cx ?_).mono fun e w' ⟨v, he, hj⟩ => by rw [he]; exact hj
  clear cx
  refine fun w G cx => Clone_use hΦ hl cx fun p' cap' w cx => ⟨p', _, cap', rfl, bufE p' cap' (idxL 0 l) :: S, Φ, inferInstance, cx, fun w G cx => ?_⟩
  rw [← idxL_len 0 l]
  refine Delete_use there_fn (idxL 0 l) (by rw [idxL_len]; omega) (p := p') (cap := cap') (S := S ++ G) (Φ := Φ) cx fun w cx => ⟨p', _, cap', rfl, bufE p' cap' ((idxL 0 l).filter fun x => !goneE x) :: S, Φ, inferInstance, cx, fun w G cx => ?_⟩
  exact hK p' cap' _ w (by rw [filter_there, idxL_d]) cx.left

section
variable {Φ : PW} {q : TO} {s : StD}
set_option maxHeartbeats 1000000 in
theorem Scan_sl [Stable Φ] [hΦ : Has Φ (StR q s)] (hC : StC q s) (hn : s.levels.length ≤ 900000) (hl : s.levels.flatten.length ≤ 900000) (hv : (verP s).length ≤ 40000000) (hz : Szs (verP s)) {pre : ByteArray} (hpre : pre.size ≤ maxLen) :
    GivesSl Φ Tryz.prog F.store_Store_Scan #[.pointer (some ⟨q.sb, 0, none⟩), .string pre] (scanS s pre) id := by
  have hrv : (runsP s).flatten = verP s := runs_ver s
  have hrl : (runsP s).length ≤ 1000000 := by unfold runsP; rw [List.length_cons]; omega
  refine gives_sl (Bstore_Store_Scan_run q.sb 0 pre) fun W R => fun k w G cx => ?_
  obtain ⟨c1, hs⟩ := cx.freezeBlk (α := ByteArray) (l := [pre]) (Elems.one (α := ByteArray) (x := pre) (cs := [.string pre]) (show Gv.rep _ _ [Value.string pre] pre from ⟨rfl, hpre⟩))
  have cx1 : Ctx W w (R ++ G) (fun M w => Φ M w ∧ Sl M w (some ⟨k, 0, none⟩) [pre]) := c1.add hs
  have st1 : Stable (fun M w => Φ M w ∧ Sl M w (some ⟨k, 0, none⟩) [pre]) := instStableAnd Φ (fun M w => Sl M w (some ⟨k, 0, none⟩) [pre])
  clear cx c1 hs
  refine (runs_sl (Φ := fun M w => Φ M w ∧ Sl M w (some ⟨k, 0, none⟩) [pre]) (hΦ := ⟨fun M w h => hΦ.go M w h.1⟩) hC (by omega) hl).use cx1 fun p1 d1 w g1 g2 cx => ?_
  have st2 : Stable (fun M w => (Φ M w ∧ Sl M w (some ⟨k, 0, none⟩) [pre]) ∧ Sl M w p1 (runsP s)) := instStableAnd (fun M w => Φ M w ∧ Sl M w (some ⟨k, 0, none⟩) [pre]) (fun M w => Sl M w p1 (runsP s))
  refine ⟨p1, _, d1, rfl, R, _, st2, cx, fun w G cx => ?_⟩
  refine (merge_sl (Φ := fun M w => (Φ M w ∧ Sl M w (some ⟨k, 0, none⟩) [pre]) ∧ Sl M w p1 (runsP s)) (hΦ := ⟨fun M w h => h.2⟩) hrl (by rw [hrv]; omega)).use cx fun p2 d2 w g3 g4 cx => ?_
  rw [hrv] at g3 cx ⊢
  have cx2 := cx.weak (Ψ := fun M w => (Φ M w ∧ Sl M w (some ⟨k, 0, none⟩) [pre]) ∧ Sl M w p2 (normK (verP s))) fun M w h => ⟨h.1.1, h.2⟩
  have st3 : Stable (fun M w => (Φ M w ∧ Sl M w (some ⟨k, 0, none⟩) [pre]) ∧ Sl M w p2 (normK (verP s))) := instStableAnd (fun M w => Φ M w ∧ Sl M w (some ⟨k, 0, none⟩) [pre]) (fun M w => Sl M w p2 (normK (verP s)))
  refine ⟨p2, _, d2, rfl, R, _, st3, cx2, fun w G cx => ?_⟩
  clear cx2
  have hnl := normK_len (verP s)
  refine there_buf (Φ := fun M w => (Φ M w ∧ Sl M w (some ⟨k, 0, none⟩) [pre]) ∧ Sl M w p2 (normK (verP s))) (fun M w h => h.2) (by omega) cx fun p3 d3 es w hes cx => ⟨p3, _, d3, rfl, bufE p3 d3 es :: R, _, st3, cx, fun w G cx => ?_⟩
  have hel : es.length ≤ 100000000 := by
    have h1 := congrArg List.length hes
    rw [List.length_map] at h1
    have h2 : (thereP (normK (verP s))).length ≤ (normK (verP s)).length := List.length_filter_le _ _
    omega
  refine Delete_use (scan_fn fun M w h => h.1.2) es hel (S := R ++ G) cx fun w cx => ⟨p3, _, d3, rfl, bufE p3 d3 (es.filter fun x => !goneF (fun y => !preP pre y.key) x) :: R, _, st3, cx, fun w G cx => ?_⟩
  have em : (es.filter fun x => !goneF (fun y => !preP pre y.key) x).map PE.d = scanS s pre := by
    unfold scanS allS
    rw [← hes, List.filter_map]
    congr 1
    refine List.filter_congr fun x _ => ?_
    show (!(!preP pre x.d.key)) = preP pre x.d.key
    rw [Bool.not_not]
  obtain ⟨c1, c2, c3⟩ := freezeE (S := R ++ G) cx (by
    rw [em]
    intro x hx
    have h1 : x ∈ allS s := (List.mem_filter.1 hx).1
    exact hz x (normK_mem x (List.mem_filter.1 h1).1))
  rw [em] at c1 c2
  refine ⟨p3, d3, ?_, c2, c3, (c1.weak (Ψ := fun M w => Φ M w ∧ Sl M w p3 (scanS s pre)) fun M w h => ⟨h.1.1.1, h.2⟩).left⟩
  have el : (es.filter fun x => !goneF (fun y => !preP pre y.key) x).length = (scanS s pre).length := by rw [← em, List.length_map]
  rw [el]
  rfl
theorem Len_in [Stable Φ] [hΦ : Has Φ (StR q s)] (hC : StC q s) (hn : s.levels.length ≤ 900000) (hl : s.levels.flatten.length ≤ 900000) (hv : (verP s).length ≤ 40000000) (hz : Szs (verP s)) :
    GivesIn Φ Tryz.prog F.store_Store_Len #[.pointer (some ⟨q.sb, 0, none⟩)] (.int .i64 ((scanS s tE).length : Int)) := by
  refine gives_in (Bstore_Store_Len_run q.sb 0) fun W R => fun w G cx => ?_
  refine (Scan_sl (pre := tE) hC hn hl hv hz (by show 0 ≤ _; omega)).use cx fun p c w g1 g2 cx => ?_
  have st : Stable (fun M w => Φ M w ∧ Sl M w p (scanS s tE)) := instStableAnd Φ (fun M w => Sl M w p (scanS s tE))
  exact ⟨p, _, c, rfl, R, _, st, cx, fun w G cx => ⟨rfl, cx.left.weak fun M w h => h.1⟩⟩
end
end Go.Proofs.YtebnciehcnedjaaGreatDoor
end

/-
  How much a store holds after Put, in plain Lean.
-/
section
set_option linter.unusedVariables false
set_option linter.unusedSimpArgs false
namespace Go.Proofs.YtebnciehcnedjaaGreatDoor
open Go.Vc

theorem settle_less : ∀ (m : Nat) (ls : List Lev), cntL ls ≤ m → cntL (settleL ls) ≤ cntL ls ∧ (allRuns (settleL ls)).length ≤ (allRuns ls).length
  | m, [], _ => by rw [settleL_nil]; exact ⟨Nat.le_refl _, Nat.le_refl _⟩
  | 0, l :: t, h => by
    have : cntL (l :: t) = l.length + 1 + cntL t := by unfold cntL; simp; omega
    omega
  | m + 1, l :: t, h => by
    have hc : cntL (l :: t) = l.length + 1 + cntL t := by unfold cntL; simp; omega
    by_cases h4 : l.length < 4
    · obtain ⟨h1, h2⟩ := settle_less m t (by omega)
      rw [settleL_less h4]
      have hc2 : cntL (l :: settleL t) = l.length + 1 + cntL (settleL t) := by unfold cntL; simp; omega
      rw [allRuns_cons, allRuns_cons, List.length_append, List.length_append]
      exact ⟨by omega, by omega⟩
    · have ha := addL_cnt t (pushR l t)
      obtain ⟨h1, h2⟩ := settle_less m (addL t (pushR l t)) (by omega)
      rw [settleL_more h4]
      have hc2 : cntL ([] :: settleL (addL t (pushR l t))) = 0 + 1 + cntL (settleL (addL t (pushR l t))) := by unfold cntL; simp; omega
      rw [addL_runs, List.length_append] at h2
      have h5 := push_len l t
      rw [allRuns_cons, allRuns_cons, List.length_append, List.length_append]
      exact ⟨by omega, by simp only [List.flatten_nil, List.length_nil]; omega⟩
theorem put_cnt (s : StD) (k v : ByteArray) : cntL (putS s k v).levels ≤ cntL s.levels + 2 := by
  show cntL (settleL (if (putK ⟨k, v⟩ s.table).length = 8 then addL s.levels (putK ⟨k, v⟩ s.table) else s.levels)) ≤ _
  split
  · have h1 := (settle_less _ (addL s.levels (putK ⟨k, v⟩ s.table)) (Nat.le_refl _)).1
    have h2 := addL_cnt s.levels (putK ⟨k, v⟩ s.table)
    omega
  · have h1 := (settle_less _ s.levels (Nat.le_refl _)).1
    omega
theorem put_ver (s : StD) (k v : ByteArray) : (verP (putS s k v)).length ≤ (verP s).length + 1 := by
  have hp := (putK_len ⟨k, v⟩ s.table).2
  show ((if (putK ⟨k, v⟩ s.table).length = 8 then [] else putK ⟨k, v⟩ s.table) ++ allRuns (settleL (if (putK ⟨k, v⟩ s.table).length = 8 then addL s.levels (putK ⟨k, v⟩ s.table) else s.levels))).length ≤ (s.table ++ allRuns s.levels).length + 1
  by_cases e : (putK ⟨k, v⟩ s.table).length = 8
  · rw [if_pos e, if_pos e]
    have h1 := (settle_less _ (addL s.levels (putK ⟨k, v⟩ s.table)) (Nat.le_refl _)).2
    rw [addL_runs, List.length_append] at h1
    rw [List.length_append, List.length_append, List.length_nil]
    omega
  · rw [if_neg e, if_neg e]
    have h1 := (settle_less _ s.levels (Nat.le_refl _)).2
    rw [List.length_append, List.length_append]
    omega
theorem put_log (s : StD) (k v : ByteArray) : (putS s k v).log.length = s.log.length + 1 := by
  show (s.log ++ [(⟨s.seq + 1, k, v⟩ : ChgD)]).length = _
  rw [List.length_append]
  rfl
theorem put_s {s : StD} {n : Nat} (h : StS s n) (k v : ByteArray) (hs : I64 (s.seq + 1 + 1)) : StS (putS s k v) (n + 1) :=
  ⟨by have := put_cnt s k v; have := h.cnt; omega, by have := put_ver s k v; have := h.ver; omega, by rw [put_log]; have := h.log; omega, hs⟩
/-- a store's strings are those of its changes -/
theorem settle_mem : ∀ (m : Nat) (ls : List Lev), cntL ls ≤ m → ∀ x ∈ allRuns (settleL ls), x ∈ allRuns ls
  | m, [], _, x, h => by rwa [settleL_nil] at h
  | 0, l :: t, h, _, _ => by
    have : cntL (l :: t) = l.length + 1 + cntL t := by unfold cntL; simp; omega
    omega
  | m + 1, l :: t, h, x, hx => by
    have hc : cntL (l :: t) = l.length + 1 + cntL t := by unfold cntL; simp; omega
    by_cases h4 : l.length < 4
    · rw [settleL_less h4, allRuns_cons] at hx
      rw [allRuns_cons]
      rcases List.mem_append.1 hx with hx | hx
      · exact List.mem_append_left _ hx
      · exact List.mem_append_right _ (settle_mem m t (by omega) x hx)
    · have ha := addL_cnt t (pushR l t)
      rw [settleL_more h4, allRuns_cons, List.flatten_nil, List.nil_append] at hx
      have h1 := settle_mem m (addL t (pushR l t)) (by omega) x hx
      rw [addL_runs] at h1
      rw [allRuns_cons]
      rcases List.mem_append.1 h1 with h1 | h1
      · refine List.mem_append_left _ ?_
        unfold pushR at h1
        split at h1
        · exact normK_mem x (List.mem_filter.1 h1).1
        · exact normK_mem x h1
      · exact List.mem_append_right _ h1
theorem put_mem {s : StD} {k v : ByteArray} : ∀ x ∈ verP (putS s k v), x = ⟨k, v⟩ ∨ x ∈ verP s := fun x hx => by
  have hx : x ∈ (if (putK ⟨k, v⟩ s.table).length = 8 then [] else putK ⟨k, v⟩ s.table) ++ allRuns (settleL (if (putK ⟨k, v⟩ s.table).length = 8 then addL s.levels (putK ⟨k, v⟩ s.table) else s.levels)) := hx
  have fin : x ∈ putK ⟨k, v⟩ s.table → x = ⟨k, v⟩ ∨ x ∈ verP s := fun h => by
    rcases putK_mem h with h | h
    · exact .inl h
    · exact .inr (List.mem_append_left _ h)
  by_cases e : (putK ⟨k, v⟩ s.table).length = 8
  · rw [if_pos e, if_pos e, List.nil_append] at hx
    have h1 := settle_mem _ _ (Nat.le_refl _) x hx
    rw [addL_runs] at h1
    rcases List.mem_append.1 h1 with h1 | h1
    · exact fin h1
    · exact .inr (List.mem_append_right _ h1)
  · rw [if_neg e, if_neg e] at hx
    rcases List.mem_append.1 hx with hx | hx
    · exact fin hx
    · exact .inr (List.mem_append_right _ (settle_mem _ _ (Nat.le_refl _) x hx))
end Go.Proofs.YtebnciehcnedjaaGreatDoor
end

/-
  Runs: the sizes of the runs of each level.
-/
section
set_option linter.unusedVariables false
set_option linter.unusedSimpArgs false
namespace Go.Proofs.YtebnciehcnedjaaGreatDoor
open Go.Vc


def lastN (ls : List Lev) : Nat := (ls.reverse.dropWhile fun l => decide (l = [])).length
theorem lastN_snoc (ls : List Lev) (l : Lev) : lastN (ls ++ [l]) = if l = [] then lastN ls else ls.length + 1 := by
  unfold lastN
  rw [List.reverse_append, List.reverse_singleton, List.singleton_append, List.dropWhile_cons]
  by_cases h : l = []
  · rw [if_pos (decide_eq_true h), if_pos h]
  · rw [if_neg (by rw [decide_eq_false h]; simp), if_neg h, List.length_cons, List.length_reverse]
theorem lastN_le (ls : List Lev) : lastN ls ≤ ls.length := by
  unfold lastN
  have := (List.dropWhile_sublist (fun l : Lev => decide (l = [])) (l := ls.reverse)).length_le
  rw [List.length_reverse] at this
  exact this
abbrev sizesL (l : Lev) : List Int := l.map fun r => (r.length : Int)
def runsL (s : StD) : List (List Int) := (s.levels.map sizesL).take (lastN s.levels)

theorem sl_take {α : Type} [Gv α] {M : List Nat} {w : World} {p : Option Addr} {l : List α} (h : Sl M w p l) (n : Nat) : Sl M w p (l.take n) := fun j hj => by
  rw [List.length_take] at hj
  obtain ⟨b, o, cs, e, h1, h2, h3⟩ := h j (by omega)
  exact ⟨b, o, cs, e, h1, h2, by rw [List.getElem_take]; exact h3⟩
theorem sl_len {M : List Nat} {w : World} {b o : Nat} {l : Lev} (h : Sl M w (some ⟨b, o, none⟩) l) {j : Nat} (hj : j < l.length) : ∃ p c, w.cell? ⟨b, o + j, none⟩ = some (.slice p l[j].length c) := by
  obtain ⟨b', o', cs, e, _, h3, h4⟩ := h j hj
  cases e
  obtain ⟨p, c, rfl, _⟩ := rep_list.1 h4
  have := h3 0 (by simp)
  rw [show (Gv.ty Run).size = 1 from rfl, Nat.mul_one] at this
  exact ⟨p, c, by simpa using this⟩
theorem buf_p {W w : World} {S : List Own} {Φ : PW} {p : Option Addr} {n cap : Nat} {cs : List Value} {t : TypeId} {size : Nat} (cx : Ctx W w (.buf p n cap cs t size :: S) Φ) (sz : Nat) : subPtr p sz 0 cap = p := by
  obtain ⟨_, h2⟩ := cx.own _ List.mem_cons_self
  rcases h2 with ⟨e, rfl⟩ | ⟨g, cap', cur, e, _⟩
  · cases e
    unfold subPtr
    split <;> rfl
  · cases e
    exact subPtr_zero _ _ _

section
variable {Φ : PW} {q : TO} {s : StD}
set_option maxHeartbeats 2000000 in
theorem Runs_sl [Stable Φ] [hΦ : Has Φ (StR q s)] (hn : s.levels.length ≤ 900000) (hb : ∀ l ∈ s.levels, l.length ≤ 900000) (hr : ∀ l ∈ s.levels, ∀ r ∈ l, r.length ≤ 100000000) :
    GivesSl Φ Tryz.prog F.store_Store_Runs #[.pointer (some ⟨q.sb, 0, none⟩)] (runsL s) id := by
  refine GivesSl.pinned (fun M w h => (hΦ.go M w h).2.2.1) fun g o cs hlp => ?_
  refine gives_sl (Bstore_Store_Runs_run q.sb 0) fun W R => fun w G cx => ?_
  refine ⟨q.lp, s.levels.length, q.lc, (hΦ.go _ _ cx.phi.1).1.2.1 1 (by show 1 < 5; decide), ?_⟩
  clear cx
  obtain ⟨ls, hls⟩ : ∃ ls, s.levels = ls := ⟨_, rfl⟩
  unfold runsL
  rw [hls] at hlp hn hb hr ⊢
  have st0 : Stable (fun M w => Φ M w ∧ Pin g o cs ls M w) := instStableAnd Φ (fun M w => Pin g o cs ls M w)
  have stE : ∀ (ds : List Value) (l : List (List Int)), Stable (fun M w => (Φ M w ∧ Pin g o cs ls M w) ∧ Elems M w ds l) := fun ds l => instStableAnd (fun M w => Φ M w ∧ Pin g o cs ls M w) (fun M w => Elems M w ds l)
  have stI : ∀ (ds : List Value) (l : List (List Int)) (es : List Value) (m : List Int), Stable (fun M w => ((Φ M w ∧ Pin g o cs ls M w) ∧ Elems M w ds l) ∧ Elems M w es m) := fun ds l es m => instStableAnd (fun M w => (Φ M w ∧ Pin g o cs ls M w) ∧ Elems M w ds l) (fun M w => Elems M w es m)
  refine exI_mk (fun p n cap la iI R' Φ' k => ∃ (i : Nat) (ds : List Value), iI = i ∧ (i ≤ ls.length ∧ i ≤ cap) ∧ la = (lastN (ls.take i) : Int) ∧ n = ((ls.take i).map sizesL).length ∧ R' = .buf p n cap ds 53 1 :: R ∧ Φ' = (fun M w => (Φ M w ∧ Pin g o cs ls M w) ∧ Elems M w ds ((ls.take i).map sizesL)) ∧ k = ls.length - i)
    ⟨⟨.buf none 0 0 [] 53 1 :: R, _, _, stE [] ((ls.take 0).map sizesL), fun w G cx => (cx.weak fun M w h => ⟨h, Elems.nil⟩).nobuf 53 1, 0, [], rfl, ⟨Nat.zero_le _, Nat.zero_le _⟩, rfl, rfl, rfl, rfl, rfl⟩, ?_⟩
  rintro p n cap la iI R1 Φ1 k hst1 ⟨i, ds, rfl, ⟨hi, hicap⟩, rfl, rfl, rfl, rfl, rfl⟩
  have hil : ((ls.take i).map sizesL).length = i := by rw [List.length_map, List.length_take]; omega
  refine Br.intro (fun hlt => ?_) (fun hge => ?_)
  · have hlt : i < ls.length := by have := of_decide_eq_true hlt; omega
    have hlp := hlp (by omega)
    have htk : ls.take (i + 1) = ls.take i ++ [ls[i]] := List.take_succ_eq_append_getElem hlt
    have hbl := hb _ (List.getElem_mem hlt)
    have hrl := hr _ (List.getElem_mem hlt)
    refine ⟨⟨by omega, by omega⟩, ptrK_intro g o hlp fun w G cx => ?_⟩
    obtain ⟨p1, c1, e, _, _⟩ := pin_ls cx.phi.1.2 hlt
    have hth := (pin_lsSl cx.phi.1.2 hlt e).there
    refine ⟨p1, ls[i].length, c1, by rw [Int.toNat_natCast]; exact pin_lsAt cx.phi.1.2 hlt e, ?_⟩
    clear cx
    obtain ⟨l, hl⟩ : ∃ l, ls[i] = l := ⟨_, rfl⟩
    have hsl1 : ∀ M w, Pin g o cs ls M w → Sl M w p1 l := fun M w h => by rw [← hl]; exact pin_lsSl h hlt e
    rw [hl] at hth htk hbl hrl ⊢
    refine exI_mk (fun p2 n2 cap2 jI R' Φ' k => ∃ (j : Nat) (es : List Value), jI = j ∧ j ≤ l.length ∧ n2 = (sizesL (l.take j)).length ∧ R' = .buf p2 n2 cap2 es 3 1 :: .buf p ((ls.take i).map sizesL).length cap ds 53 1 :: R ∧ Φ' = (fun M w => ((Φ M w ∧ Pin g o cs ls M w) ∧ Elems M w ds ((ls.take i).map sizesL)) ∧ Elems M w es (sizesL (l.take j))) ∧ k = l.length - j)
      ⟨⟨.buf none 0 0 [] 3 1 :: .buf p ((ls.take i).map sizesL).length cap ds 53 1 :: R, _, _, stI ds ((ls.take i).map sizesL) [] (sizesL (l.take 0)), fun w G cx => (cx.weak fun M w h => ⟨h, Elems.nil⟩).nobuf 3 1, 0, [], rfl, Nat.zero_le _, rfl, rfl, rfl, rfl⟩, ?_⟩
    rintro p2 n2 cap2 jI R2 Φ2 k2 hst2 ⟨j, es, rfl, hj, rfl, rfl, rfl, rfl⟩
    have hjl : (sizesL (l.take j)).length = j := by rw [List.length_map, List.length_take]; omega
    refine Br.intro (fun hlt2 => ?_) (fun hge2 => fun k w G cx => ?_)
    · have hlt2 : j < l.length := by have := of_decide_eq_true hlt2; omega
      obtain ⟨b, ob, hpb⟩ := hth (by omega)
      have hst : sizesL (l.take (j + 1)) = sizesL (l.take j) ++ [(l[j].length : Int)] := by
        unfold sizesL
        rw [List.take_succ_eq_append_getElem hlt2, List.map_append]
        rfl
      have hrj := hrl _ (List.getElem_mem hlt2)
      refine ⟨⟨by omega, by omega⟩, ptrK_intro b ob hpb fun w G cx => ?_⟩
      obtain ⟨p3, c3, hc3⟩ := sl_len (by rw [← hpb]; exact hsl1 _ _ cx.phi.1.1.2) hlt2
      refine ⟨p3, l[j].length, c3, by rw [Int.toNat_natCast]; exact hc3, fun k w G cx => ?_⟩
      obtain ⟨p', cap', w', hrun, _, cx2⟩ := cx.app1 (ts := 53) (ty := 53) (kb := #[false, false]) (bytes := 8) (P := Tryz.prog) (by kernel_rfl) (by omega) rfl rfl (by omega) (by omega)
      have e2 : (sizesL (l.take j)).length + 1 = (sizesL (l.take (j + 1))).length := by rw [hst, List.length_append]; rfl
      rw [e2] at hrun cx2
      have st3 := stI ds ((ls.take i).map sizesL) (es ++ [Value.int .i64 (l[j].length : Int)]) (sizesL (l.take (j + 1)))
      exact ⟨p', _, cap', w', hrun, .buf p' (sizesL (l.take (j + 1))).length cap' (es ++ [Value.int .i64 (l[j].length : Int)]) 3 1 :: .buf p ((ls.take i).map sizesL).length cap ds 53 1 :: R, _, st3, cx2.weak fun M w h => ⟨h.1, by rw [hst]; exact h.2.snoc ⟨rfl, by unfold I64; omega⟩⟩, by unfold I64; omega, _, _, l.length - (j + 1), st3, fun w G cx => cx, ⟨j + 1, _, by omega, by omega, rfl, rfl, rfl, rfl⟩, by omega⟩
    · have hge2 : j = l.length := by have := of_decide_eq_false hge2; omega
      subst hge2
      rw [List.take_length] at cx hjl
      -- the sizes of a level
      have cx1 : Ctx W w (.buf p2 (sizesL l).length cap2 es 3 1 :: .blk k [Value.slice p2 (sizesL l).length cap2] 53 :: .buf p ((ls.take i).map sizesL).length cap ds 53 1 :: (R ++ G)) (fun M w => ((Φ M w ∧ Pin g o cs ls M w) ∧ Elems M w ds ((ls.take i).map sizesL)) ∧ Elems M w es (sizesL l)) := cx.swap
      obtain ⟨c4, hs, _, g3, g4⟩ := Ctx.freeze (α := Int) cx1 cx1.phi.2
      have cx5 := c4.add (Ψ := fun M w => Sl M w p2 (sizesL l)) hs
      obtain ⟨p', cap', w', hrun, _, cx6⟩ := cx5.app1 (ts := 51) (ty := 51) (kb := #[false, false]) (bytes := 24) (P := Tryz.prog) (by kernel_rfl) (by omega) rfl rfl (by omega) (by omega)
      have hst : (ls.take (i + 1)).map sizesL = (ls.take i).map sizesL ++ [sizesL l] := by rw [htk, List.map_append]; rfl
      have e2 : ((ls.take i).map sizesL).length + 1 = ((ls.take (i + 1)).map sizesL).length := by rw [hst, List.length_append]; rfl
      rw [e2] at hrun cx6
      have st4 := stE (ds ++ [Value.slice p2 (sizesL l).length cap2]) ((ls.take (i + 1)).map sizesL)
      have cx7 : Ctx W w' (.buf p' ((ls.take (i + 1)).map sizesL).length cap' (ds ++ [Value.slice p2 (sizesL l).length cap2]) 53 1 :: (R ++ G)) (fun M w => (Φ M w ∧ Pin g o cs ls M w) ∧ Elems M w (ds ++ [Value.slice p2 (sizesL l).length cap2]) ((ls.take (i + 1)).map sizesL)) := cx6.weak fun M w h => ⟨h.1.1.1, by rw [hst]; exact h.1.1.2.snoc (rep_list.2 ⟨p2, cap2, rfl, g3, g4, h.2⟩)⟩
      have hcap' := (cx7.bufLen 0 rfl).2.1
      rw [List.length_map, List.length_take, Nat.min_eq_left (by omega)] at hcap'
      have hla := lastN_snoc (ls.take i) l
      rw [← htk, List.length_take, Nat.min_eq_left hi] at hla
      refine ⟨p', _, cap', w', hrun, .buf p' ((ls.take (i + 1)).map sizesL).length cap' (ds ++ [Value.slice p2 (sizesL l).length cap2]) 53 1 :: R, _, st4, cx7, Br.intro (fun h0 => ?_) (fun h0 => ?_)⟩
      · have h0 : l ≠ [] := fun h => by rw [h] at h0; have := of_decide_eq_true h0; simp at this
        rw [if_neg h0] at hla
        exact ⟨by unfold I64; omega, by unfold I64; omega, _, _, ls.length - (i + 1), st4, fun w G cx => cx, ⟨i + 1, _, by omega, ⟨by omega, hcap'⟩, by omega, rfl, rfl, rfl, rfl⟩, by omega⟩
      · have h0 : l = [] := List.eq_nil_of_length_eq_zero (by have := of_decide_eq_false h0; omega)
        rw [if_pos h0] at hla
        exact ⟨by unfold I64; omega, _, _, ls.length - (i + 1), st4, fun w G cx => cx, ⟨i + 1, _, by omega, ⟨by omega, hcap'⟩, by omega, rfl, rfl, rfl, rfl⟩, by omega⟩
  · have hge : i = ls.length := by have := of_decide_eq_false hge; omega
    subst hge
    rw [List.take_length] at hst1 hil ⊢
    have hle := lastN_le ls
    refine ⟨⟨by omega, ?_⟩, fun w G cx => ?_⟩
    · omega
    · have hp := buf_p (S := R ++ G) cx 1
      obtain ⟨c4, hs, _, g3, g4⟩ := Ctx.freeze (α := List Int) (S := R ++ G) cx cx.phi.2
      rw [hp, Int.toNat_natCast]
      have hll : ((ls.map sizesL).take (lastN ls)).length = lastN ls := by rw [List.length_take, List.length_map]; omega
      refine ⟨p, cap, ?_, by rw [hll]; omega, g4, ((c4.add (Ψ := fun M w => Sl M w p (ls.map sizesL)) hs).weak (Ψ := fun M w => (Φ M w ∧ Pin g o cs ls M w) ∧ Sl M w p ((ls.map sizesL).take (lastN ls))) fun M w h => ⟨h.1.1, sl_take h.2 _⟩).left⟩
      rw [hll]
      rfl
end
end Go.Proofs.YtebnciehcnedjaaGreatDoor
end

/-
  Clone of a level.
-/
section
set_option linter.unusedVariables false
set_option linter.unusedSimpArgs false
namespace Go.Proofs.YtebnciehcnedjaaGreatDoor
open Go.Vc


end Go.Proofs.YtebnciehcnedjaaGreatDoor
end

/-
  Copy, walked.
-/
section
set_option linter.unusedVariables false
set_option linter.unusedSimpArgs false
namespace Go.Proofs.YtebnciehcnedjaaGreatDoor
open Go.Vc


end Go.Proofs.YtebnciehcnedjaaGreatDoor
end

/-
  The conditions of the walks of some functions, one formula each; 'B<f>_run' says that they suffice. The formulas are printed by a program; the kernel compares them with the functions' code.
-/
section
namespace Go.Proofs.YtebnciehcnedjaaGreatDoor
set_option linter.unusedVariables false
set_option linter.unusedSimpArgs false
set_option maxRecDepth 100000
open Go.Vc

end Go.Proofs.YtebnciehcnedjaaGreatDoor
end

/-
  Trim, walked.
-/
section
set_option linter.unusedVariables false
set_option linter.unusedSimpArgs false
namespace Go.Proofs.YtebnciehcnedjaaGreatDoor
open Go.Vc


end Go.Proofs.YtebnciehcnedjaaGreatDoor
end

/-
  Layings of the kit's shelf at this seat's numbers (printed by the kit's own tools).
-/
section
set_option linter.unusedVariables false
namespace Go.Proofs
open Go.Shelf

def Tryz.lays169_ren : Go.Shelf.Ren := ⟨fun | 169 => 59 | n => n, fun | 70 => 86 | 9 => 9 | 0 => 0 | 72 => 89 | 37 => 87 | 127 => 115 | 3 => 3 | 5 => 5 | n => n, fun | n => n⟩
theorem Tryz.lays169 : Go.Proofs.Lays.n169 Tryz.prog Tryz.lays169_ren := {
  mixed := by kernel_rfl
  f169 := Tryz.func59.trans (congrArg some (by kernel_rfl))
  t0 := Tryz.underlying0
  a0 := Tryz.isAgg0
  z0 := Tryz.sizeOf0
  v0 := Tryz.zeroValue0
  t3 := Tryz.underlying3
  a3 := Tryz.isAgg3
  z3 := Tryz.sizeOf3
  v3 := Tryz.zeroValue3
  t9 := Tryz.underlying9
  a9 := Tryz.isAgg9
  z9 := Tryz.sizeOf9
  v9 := Tryz.zeroValue9
  t37 := Tryz.underlying87
  a37 := Tryz.isAgg87
  z37 := Tryz.sizeOf87
  v37 := Tryz.zeroValue87
  t70 := Tryz.underlying86
  a70 := Tryz.isAgg86
  z70 := Tryz.sizeOf86
  v70 := Tryz.zeroValue86
  t72 := Tryz.underlying89
  a72 := Tryz.isAgg89
  z72 := Tryz.sizeOf89
  v72 := Tryz.zeroValue89
  t127 := Tryz.underlying115
  a127 := Tryz.isAgg115
  z127 := Tryz.sizeOf115
  v127 := Tryz.zeroValue115 }
theorem Tryz.Builder_Extra_169 : Builder.Extra Tryz.prog Tryz.lays169_ren := {
  sizeBuilder := by kernel_rfl
  liesBuilder := by kernel_rfl
  t5 := Tryz.underlying5
  a5 := Tryz.isAgg5
  z5 := Tryz.sizeOf5
  v5 := Tryz.zeroValue5
  infoByte := by kernel_rfl
  cellsByte := by kernel_rfl
  sizeByte := by kernel_rfl
  neB5 := by decide }
def Tryz.lays137_ren : Go.Shelf.Ren := ⟨fun | 137 => 106 | 217 => 119 | 266 => 128 | n => n, fun | 9 => 9 | 5 => 5 | 3 => 3 | n => n, fun | n => n⟩
theorem Tryz.lays137 : Go.Proofs.Lays.n137 Tryz.prog Tryz.lays137_ren := {
  mixed := by kernel_rfl
  f137 := Tryz.func106.trans (congrArg some (by kernel_rfl))
  f217 := Tryz.func119.trans (congrArg some (by kernel_rfl))
  f266 := Tryz.func128.trans (congrArg some (by kernel_rfl))
  t3 := Tryz.underlying3
  a3 := Tryz.isAgg3
  z3 := Tryz.sizeOf3
  v3 := Tryz.zeroValue3
  t5 := Tryz.underlying5
  a5 := Tryz.isAgg5
  z5 := Tryz.sizeOf5
  v5 := Tryz.zeroValue5
  t9 := Tryz.underlying9
  a9 := Tryz.isAgg9
  z9 := Tryz.sizeOf9
  v9 := Tryz.zeroValue9 }
def Tryz.lays103_ren : Go.Shelf.Ren := ⟨fun | 103 => 108 | 210 => 122 | 206 => 102 | n => n, fun | 9 => 9 | 4 => 4 | 24 => 130 | 3 => 3 | n => n, fun | n => n⟩
theorem Tryz.lays103 : Go.Proofs.Lays.n103 Tryz.prog Tryz.lays103_ren := {
  mixed := by kernel_rfl
  f103 := Tryz.func108.trans (congrArg some (by kernel_rfl))
  f206 := Tryz.func102.trans (congrArg some (by kernel_rfl))
  f210 := Tryz.func122.trans (congrArg some (by kernel_rfl))
  t3 := Tryz.underlying3
  a3 := Tryz.isAgg3
  z3 := Tryz.sizeOf3
  v3 := Tryz.zeroValue3
  t4 := Tryz.underlying4
  a4 := Tryz.isAgg4
  z4 := Tryz.sizeOf4
  v4 := Tryz.zeroValue4
  t9 := Tryz.underlying9
  a9 := Tryz.isAgg9
  z9 := Tryz.sizeOf9
  v9 := Tryz.zeroValue9
  t24 := Tryz.underlying130
  a24 := Tryz.isAgg130
  z24 := Tryz.sizeOf130
  v24 := Tryz.zeroValue130 }
def Tryz.laysM171_ren : Go.Shelf.Ren := ⟨fun | 171 => 87 | 243 => 113 | 246 => 124 | 283 => 135 | 284 => 136 | 285 => 137 | 286 => 138 | 129 => 144 | 317 => 143 | 318 => 145 | 319 => 146 | 320 => 147 | 337 => 151 | 338 => 152 | n => n, fun | 3 => 3 | 9 => 9 | 2 => 2 | 4 => 4 | 171 => 153 | 0 => 0 | 53 => 154 | 37 => 87 | 5 => 5 | 173 => 157 | 212 => 166 | 51 => 167 | 20 => 20 | 213 => 168 | 46 => 136 | 232 => 176 | 233 => 177 | n => n, fun | 17 => 3 | 18 => 4 | 19 => 5 | n => n⟩
theorem Tryz.laysM171 : Go.Proofs.LaysM.n171 Tryz.prog Tryz.laysM171_ren := {
  mixed := by kernel_rfl
  f129 := Tryz.func144.trans (congrArg some (by kernel_rfl))
  f171 := Tryz.func87.trans (congrArg some (by kernel_rfl))
  f243 := Tryz.func113.trans (congrArg some (by kernel_rfl))
  f246 := Tryz.func124.trans (congrArg some (by kernel_rfl))
  f283 := Tryz.func135.trans (congrArg some (by kernel_rfl))
  f284 := Tryz.func136.trans (congrArg some (by kernel_rfl))
  f285 := Tryz.func137.trans (congrArg some (by kernel_rfl))
  f286 := Tryz.func138.trans (congrArg some (by kernel_rfl))
  f317 := Tryz.func143.trans (congrArg some (by kernel_rfl))
  f318 := Tryz.func145.trans (congrArg some (by kernel_rfl))
  f319 := Tryz.func146.trans (congrArg some (by kernel_rfl))
  f320 := Tryz.func147.trans (congrArg some (by kernel_rfl))
  f337 := Tryz.func151.trans (congrArg some (by kernel_rfl))
  f338 := Tryz.func152.trans (congrArg some (by kernel_rfl))
  t0 := Tryz.underlying0
  a0 := Tryz.isAgg0
  z0 := Tryz.sizeOf0
  v0 := Tryz.zeroValue0
  t2 := Tryz.underlying2
  a2 := Tryz.isAgg2
  z2 := Tryz.sizeOf2
  v2 := Tryz.zeroValue2
  t3 := Tryz.underlying3
  a3 := Tryz.isAgg3
  z3 := Tryz.sizeOf3
  v3 := Tryz.zeroValue3
  t4 := Tryz.underlying4
  a4 := Tryz.isAgg4
  z4 := Tryz.sizeOf4
  v4 := Tryz.zeroValue4
  t5 := Tryz.underlying5
  a5 := Tryz.isAgg5
  z5 := Tryz.sizeOf5
  v5 := Tryz.zeroValue5
  t9 := Tryz.underlying9
  a9 := Tryz.isAgg9
  z9 := Tryz.sizeOf9
  v9 := Tryz.zeroValue9
  t20 := Tryz.underlying20
  a20 := Tryz.isAgg20
  z20 := Tryz.sizeOf20
  v20 := Tryz.zeroValue20
  t37 := Tryz.underlying87
  a37 := Tryz.isAgg87
  z37 := Tryz.sizeOf87
  v37 := Tryz.zeroValue87
  t46 := Tryz.underlying136
  a46 := Tryz.isAgg136
  z46 := Tryz.sizeOf136
  v46 := Tryz.zeroValue136
  t51 := Tryz.underlying167
  a51 := Tryz.isAgg167
  z51 := Tryz.sizeOf167
  v51 := Tryz.zeroValue167
  t53 := Tryz.underlying154
  a53 := Tryz.isAgg154
  z53 := Tryz.sizeOf154
  v53 := Tryz.zeroValue154
  t171 := Tryz.underlying153
  a171 := Tryz.isAgg153
  z171 := Tryz.sizeOf153
  v171 := Tryz.zeroValue153
  t173 := Tryz.underlying157
  a173 := Tryz.isAgg157
  z173 := Tryz.sizeOf157
  v173 := Tryz.zeroValue157
  t212 := Tryz.underlying166
  a212 := Tryz.isAgg166
  z212 := Tryz.sizeOf166
  v212 := Tryz.zeroValue166
  t213 := Tryz.underlying168
  a213 := Tryz.isAgg168
  z213 := Tryz.sizeOf168
  t232 := Tryz.underlying176
  a232 := Tryz.isAgg176
  z232 := Tryz.sizeOf176
  v232 := Tryz.zeroValue176
  t233 := Tryz.underlying177
  a233 := Tryz.isAgg177
  z233 := Tryz.sizeOf177
  v233 := Tryz.zeroValue177
  g17 := by kernel_rfl
  g18 := by kernel_rfl
  g19 := by kernel_rfl
  i0 := by kernel_rfl
  i2 := by kernel_rfl
  i3 := by kernel_rfl
  i4 := by kernel_rfl
  i5 := by kernel_rfl
  i9 := by kernel_rfl
  i20 := by kernel_rfl
  i37 := by kernel_rfl
  i46 := by kernel_rfl
  i51 := by kernel_rfl
  i53 := by kernel_rfl
  i171 := by kernel_rfl
  i173 := by kernel_rfl
  i212 := by kernel_rfl
  i232 := by kernel_rfl
  i233 := by kernel_rfl
  m17 := by kernel_rfl
  m18 := by kernel_rfl
  m19 := by kernel_rfl }
def Tryz.lays171_ren : Go.Shelf.Ren := ⟨fun | 171 => 87 | 243 => 113 | 246 => 124 | 283 => 135 | 284 => 136 | 285 => 137 | 286 => 138 | 129 => 144 | 317 => 143 | 318 => 145 | 319 => 146 | 320 => 147 | 337 => 151 | 338 => 152 | n => n, fun | 3 => 3 | 9 => 9 | 2 => 2 | 4 => 4 | 171 => 153 | 0 => 0 | 53 => 154 | 37 => 87 | 5 => 5 | 173 => 157 | 212 => 166 | 51 => 167 | 20 => 20 | 213 => 168 | 46 => 136 | 232 => 176 | 233 => 177 | n => n, fun | 17 => 3 | 18 => 4 | 19 => 5 | n => n⟩
theorem Tryz.lays171 : Go.Proofs.Lays.n171 Tryz.prog Tryz.lays171_ren := {
  mixed := by kernel_rfl
  f129 := Tryz.func144.trans (congrArg some (by kernel_rfl))
  f171 := Tryz.func87.trans (congrArg some (by kernel_rfl))
  f243 := Tryz.func113.trans (congrArg some (by kernel_rfl))
  f246 := Tryz.func124.trans (congrArg some (by kernel_rfl))
  f283 := Tryz.func135.trans (congrArg some (by kernel_rfl))
  f284 := Tryz.func136.trans (congrArg some (by kernel_rfl))
  f285 := Tryz.func137.trans (congrArg some (by kernel_rfl))
  f286 := Tryz.func138.trans (congrArg some (by kernel_rfl))
  f317 := Tryz.func143.trans (congrArg some (by kernel_rfl))
  f318 := Tryz.func145.trans (congrArg some (by kernel_rfl))
  f319 := Tryz.func146.trans (congrArg some (by kernel_rfl))
  f320 := Tryz.func147.trans (congrArg some (by kernel_rfl))
  f337 := Tryz.func151.trans (congrArg some (by kernel_rfl))
  f338 := Tryz.func152.trans (congrArg some (by kernel_rfl))
  t0 := Tryz.underlying0
  a0 := Tryz.isAgg0
  z0 := Tryz.sizeOf0
  v0 := Tryz.zeroValue0
  t2 := Tryz.underlying2
  a2 := Tryz.isAgg2
  z2 := Tryz.sizeOf2
  v2 := Tryz.zeroValue2
  t3 := Tryz.underlying3
  a3 := Tryz.isAgg3
  z3 := Tryz.sizeOf3
  v3 := Tryz.zeroValue3
  t4 := Tryz.underlying4
  a4 := Tryz.isAgg4
  z4 := Tryz.sizeOf4
  v4 := Tryz.zeroValue4
  t5 := Tryz.underlying5
  a5 := Tryz.isAgg5
  z5 := Tryz.sizeOf5
  v5 := Tryz.zeroValue5
  t9 := Tryz.underlying9
  a9 := Tryz.isAgg9
  z9 := Tryz.sizeOf9
  v9 := Tryz.zeroValue9
  t20 := Tryz.underlying20
  a20 := Tryz.isAgg20
  z20 := Tryz.sizeOf20
  v20 := Tryz.zeroValue20
  t37 := Tryz.underlying87
  a37 := Tryz.isAgg87
  z37 := Tryz.sizeOf87
  v37 := Tryz.zeroValue87
  t46 := Tryz.underlying136
  a46 := Tryz.isAgg136
  z46 := Tryz.sizeOf136
  v46 := Tryz.zeroValue136
  t51 := Tryz.underlying167
  a51 := Tryz.isAgg167
  z51 := Tryz.sizeOf167
  v51 := Tryz.zeroValue167
  t53 := Tryz.underlying154
  a53 := Tryz.isAgg154
  z53 := Tryz.sizeOf154
  v53 := Tryz.zeroValue154
  t171 := Tryz.underlying153
  a171 := Tryz.isAgg153
  z171 := Tryz.sizeOf153
  v171 := Tryz.zeroValue153
  t173 := Tryz.underlying157
  a173 := Tryz.isAgg157
  z173 := Tryz.sizeOf157
  v173 := Tryz.zeroValue157
  t212 := Tryz.underlying166
  a212 := Tryz.isAgg166
  z212 := Tryz.sizeOf166
  v212 := Tryz.zeroValue166
  t213 := Tryz.underlying168
  a213 := Tryz.isAgg168
  z213 := Tryz.sizeOf168
  t232 := Tryz.underlying176
  a232 := Tryz.isAgg176
  z232 := Tryz.sizeOf176
  v232 := Tryz.zeroValue176
  t233 := Tryz.underlying177
  a233 := Tryz.isAgg177
  z233 := Tryz.sizeOf177
  v233 := Tryz.zeroValue177
  g17 := by kernel_rfl
  g18 := by kernel_rfl
  g19 := by kernel_rfl }
def Tryz.laysC172_ren : Go.Shelf.Ren := ⟨fun | 172 => 107 | 244 => 120 | 245 => 121 | 247 => 129 | 279 => 130 | 280 => 131 | 281 => 132 | 282 => 133 | 287 => 140 | 316 => 141 | 171 => 87 | 205 => 142 | 321 => 149 | 322 => 150 | 243 => 113 | 246 => 124 | 283 => 135 | 284 => 136 | 285 => 137 | 286 => 138 | 129 => 144 | 317 => 143 | 318 => 145 | 319 => 146 | 320 => 147 | 337 => 151 | 338 => 152 | n => n, fun | 9 => 9 | 3 => 3 | 75 => 91 | 76 => 92 | 4 => 4 | 5 => 5 | 167 => 146 | 37 => 87 | 0 => 0 | 85 => 147 | 2 => 2 | 168 => 149 | 53 => 154 | 175 => 159 | 46 => 136 | 210 => 162 | 127 => 115 | 145 => 174 | 143 => 172 | 21 => 21 | 171 => 153 | 173 => 157 | 212 => 166 | 51 => 167 | 20 => 20 | 213 => 168 | 232 => 176 | 233 => 177 | 80 => 37 | n => n, fun | 15 => 1 | 16 => 2 | 17 => 3 | 18 => 4 | 19 => 5 | n => n⟩
theorem Tryz.laysC172 : Go.Proofs.LaysC.n172 Tryz.prog Tryz.laysC172_ren := {
  mixed := by kernel_rfl
  f129 := Tryz.func144.trans (congrArg some (by kernel_rfl))
  f171 := Tryz.func87.trans (congrArg some (by kernel_rfl))
  f172 := Tryz.func107.trans (congrArg some (by kernel_rfl))
  f205 := Tryz.func142.trans (congrArg some (by kernel_rfl))
  f243 := Tryz.func113.trans (congrArg some (by kernel_rfl))
  f244 := Tryz.func120.trans (congrArg some (by kernel_rfl))
  f245 := Tryz.func121.trans (congrArg some (by kernel_rfl))
  f246 := Tryz.func124.trans (congrArg some (by kernel_rfl))
  f247 := Tryz.func129.trans (congrArg some (by kernel_rfl))
  f279 := Tryz.func130.trans (congrArg some (by kernel_rfl))
  f280 := Tryz.func131.trans (congrArg some (by kernel_rfl))
  f281 := Tryz.func132.trans (congrArg some (by kernel_rfl))
  f282 := Tryz.func133.trans (congrArg some (by kernel_rfl))
  f283 := Tryz.func135.trans (congrArg some (by kernel_rfl))
  f284 := Tryz.func136.trans (congrArg some (by kernel_rfl))
  f285 := Tryz.func137.trans (congrArg some (by kernel_rfl))
  f286 := Tryz.func138.trans (congrArg some (by kernel_rfl))
  f287 := Tryz.func140.trans (congrArg some (by kernel_rfl))
  f316 := Tryz.func141.trans (congrArg some (by kernel_rfl))
  f317 := Tryz.func143.trans (congrArg some (by kernel_rfl))
  f318 := Tryz.func145.trans (congrArg some (by kernel_rfl))
  f319 := Tryz.func146.trans (congrArg some (by kernel_rfl))
  f320 := Tryz.func147.trans (congrArg some (by kernel_rfl))
  f321 := Tryz.func149.trans (congrArg some (by kernel_rfl))
  f322 := Tryz.func150.trans (congrArg some (by kernel_rfl))
  f337 := Tryz.func151.trans (congrArg some (by kernel_rfl))
  f338 := Tryz.func152.trans (congrArg some (by kernel_rfl))
  t0 := Tryz.underlying0
  a0 := Tryz.isAgg0
  z0 := Tryz.sizeOf0
  v0 := Tryz.zeroValue0
  t2 := Tryz.underlying2
  a2 := Tryz.isAgg2
  z2 := Tryz.sizeOf2
  v2 := Tryz.zeroValue2
  t3 := Tryz.underlying3
  a3 := Tryz.isAgg3
  z3 := Tryz.sizeOf3
  v3 := Tryz.zeroValue3
  t4 := Tryz.underlying4
  a4 := Tryz.isAgg4
  z4 := Tryz.sizeOf4
  v4 := Tryz.zeroValue4
  t5 := Tryz.underlying5
  a5 := Tryz.isAgg5
  z5 := Tryz.sizeOf5
  v5 := Tryz.zeroValue5
  t9 := Tryz.underlying9
  a9 := Tryz.isAgg9
  z9 := Tryz.sizeOf9
  v9 := Tryz.zeroValue9
  t20 := Tryz.underlying20
  a20 := Tryz.isAgg20
  z20 := Tryz.sizeOf20
  v20 := Tryz.zeroValue20
  t21 := Tryz.underlying21
  a21 := Tryz.isAgg21
  z21 := Tryz.sizeOf21
  v21 := Tryz.zeroValue21
  t37 := Tryz.underlying87
  a37 := Tryz.isAgg87
  z37 := Tryz.sizeOf87
  v37 := Tryz.zeroValue87
  t46 := Tryz.underlying136
  a46 := Tryz.isAgg136
  z46 := Tryz.sizeOf136
  v46 := Tryz.zeroValue136
  t51 := Tryz.underlying167
  a51 := Tryz.isAgg167
  z51 := Tryz.sizeOf167
  v51 := Tryz.zeroValue167
  t53 := Tryz.underlying154
  a53 := Tryz.isAgg154
  z53 := Tryz.sizeOf154
  v53 := Tryz.zeroValue154
  t75 := Tryz.underlying91
  a75 := Tryz.isAgg91
  z75 := Tryz.sizeOf91
  v75 := Tryz.zeroValue91
  t76 := Tryz.underlying92
  a76 := Tryz.isAgg92
  z76 := Tryz.sizeOf92
  v76 := Tryz.zeroValue92
  t85 := Tryz.underlying147
  a85 := Tryz.isAgg147
  z85 := Tryz.sizeOf147
  v85 := Tryz.zeroValue147
  t127 := Tryz.underlying115
  a127 := Tryz.isAgg115
  z127 := Tryz.sizeOf115
  v127 := Tryz.zeroValue115
  t143 := Tryz.underlying172
  a143 := Tryz.isAgg172
  z143 := Tryz.sizeOf172
  v143 := Tryz.zeroValue172
  t145 := Tryz.underlying174
  a145 := Tryz.isAgg174
  z145 := Tryz.sizeOf174
  v145 := Tryz.zeroValue174
  t167 := Tryz.underlying146
  a167 := Tryz.isAgg146
  z167 := Tryz.sizeOf146
  v167 := Tryz.zeroValue146
  t168 := Tryz.underlying149
  a168 := Tryz.isAgg149
  z168 := Tryz.sizeOf149
  v168 := Tryz.zeroValue149
  t171 := Tryz.underlying153
  a171 := Tryz.isAgg153
  z171 := Tryz.sizeOf153
  v171 := Tryz.zeroValue153
  t173 := Tryz.underlying157
  a173 := Tryz.isAgg157
  z173 := Tryz.sizeOf157
  v173 := Tryz.zeroValue157
  t175 := Tryz.underlying159
  a175 := Tryz.isAgg159
  z175 := Tryz.sizeOf159
  v175 := Tryz.zeroValue159
  t210 := Tryz.underlying162
  a210 := Tryz.isAgg162
  z210 := Tryz.sizeOf162
  v210 := Tryz.zeroValue162
  t212 := Tryz.underlying166
  a212 := Tryz.isAgg166
  z212 := Tryz.sizeOf166
  v212 := Tryz.zeroValue166
  t213 := Tryz.underlying168
  a213 := Tryz.isAgg168
  z213 := Tryz.sizeOf168
  t232 := Tryz.underlying176
  a232 := Tryz.isAgg176
  z232 := Tryz.sizeOf176
  v232 := Tryz.zeroValue176
  t233 := Tryz.underlying177
  a233 := Tryz.isAgg177
  z233 := Tryz.sizeOf177
  v233 := Tryz.zeroValue177
  g15 := by kernel_rfl
  g16 := by kernel_rfl
  g17 := by kernel_rfl
  g18 := by kernel_rfl
  g19 := by kernel_rfl
  t80 := Tryz.underlying37
  a80 := Tryz.isAgg37
  z80 := Tryz.sizeOf37
  v80 := Tryz.zeroValue37
  i0 := by kernel_rfl
  i2 := by kernel_rfl
  i3 := by kernel_rfl
  i4 := by kernel_rfl
  i5 := by kernel_rfl
  i9 := by kernel_rfl
  i20 := by kernel_rfl
  i21 := by kernel_rfl
  i37 := by kernel_rfl
  i46 := by kernel_rfl
  i51 := by kernel_rfl
  i53 := by kernel_rfl
  i75 := by kernel_rfl
  i76 := by kernel_rfl
  i80 := by kernel_rfl
  i85 := by kernel_rfl
  i127 := by kernel_rfl
  i143 := by kernel_rfl
  i145 := by kernel_rfl
  i167 := by kernel_rfl
  i168 := by kernel_rfl
  i171 := by kernel_rfl
  i173 := by kernel_rfl
  i175 := by kernel_rfl
  i210 := by kernel_rfl
  i212 := by kernel_rfl
  i232 := by kernel_rfl
  i233 := by kernel_rfl
  m15 := by kernel_rfl
  m16 := by kernel_rfl
  m17 := by kernel_rfl
  m18 := by kernel_rfl
  m19 := by kernel_rfl
  c0 := by kernel_rfl
  c2 := by kernel_rfl
  c3 := by kernel_rfl
  c4 := by kernel_rfl
  c5 := by kernel_rfl
  c9 := by kernel_rfl
  c20 := by kernel_rfl
  c21 := by kernel_rfl
  c37 := by kernel_rfl
  c46 := by kernel_rfl
  c51 := by kernel_rfl
  c53 := by kernel_rfl
  c75 := by kernel_rfl
  c76 := by kernel_rfl
  c80 := by kernel_rfl
  c85 := by kernel_rfl
  c127 := by kernel_rfl
  c143 := by kernel_rfl
  c145 := by kernel_rfl
  c167 := by kernel_rfl
  c168 := by kernel_rfl
  c171 := by kernel_rfl
  c173 := by kernel_rfl
  c175 := by kernel_rfl
  c210 := by kernel_rfl
  c212 := by kernel_rfl
  c213 := by kernel_rfl
  c232 := by kernel_rfl
  c233 := by kernel_rfl }

end Go.Proofs
end

/-
  The conditions of the walks of some functions, one formula each; 'B<f>_run' says that they suffice. The formulas are printed by a program; the kernel compares them with the functions' code.
-/
section
namespace Go.Proofs.YtebnciehcnedjaaGreatDoor
set_option linter.unusedVariables false
set_option linter.unusedSimpArgs false
set_option maxRecDepth 100000
open Go.Vc

/-- wire.Open -/
def Bwire_Open (s : ByteArray) (W : World) (R : List Own) (Φ : PW) (J : Value → World → Prop) : Prop :=
  ∀ (k0 : Nat) (w1 : World) (R2 : List Own), Ctx W w1 (Own.blk k0 [Value.string s, Value.bool false] 107 :: R ++ R2) Φ → J (Value.pointer (some (Addr.mk k0 0 none))) w1

theorem Bwire_Open_run (s : ByteArray) {W w : World} {R : List Own} {Φ : PW} [Stable Φ] {J : Value → World → Prop} (c : Ctx W w R Φ) (h : Bwire_Open s W R Φ J) : Calls Tryz.prog F.wire_Open #[.string s] w fun e w' => ∃ v, e = .returned v ∧ J v w' :=
  vcFS_sound (H := { keep := some [0, 2] }) (by rw [show vcFS Tryz.prog W { keep := some [0, 2] } F.wire_Open #[.string s] R Φ J = Bwire_Open s W R Φ J by kernel_rfl]; exact h) c

/-- (*wire.Reader).Int -/
def Bwire_Reader_Int (rB rO : Nat) (W : World) (R : List Own) (Φ : PW) (J : Value → World → Prop) : Prop :=
  ∀ (w0 : World) (R1 : List Own), Ctx W w0 (R ++ R1) Φ → Calls Tryz.prog F.wire_Reader_number #[Value.pointer (some (Addr.mk rB rO none)), Value.int IntKind.u8 59, Value.int IntKind.i64
  (-9223372036854775808)] w0 fun (e2 : Ending) (w3 : World) => ∃ (n4 : Int), e2 = Ending.returned (Value.int IntKind.i64 n4) ∧ ∃ (R5 : List Own), ∃ (Φ6 : PW), Stable Φ6 ∧ Ctx W w3 (R5 ++ R1)
  Φ6 ∧ ∀ (w7 : World) (R8 : List Own), Ctx W w7 (R5 ++ R8) Φ6 → J (Value.int IntKind.i64 n4) w7

theorem Bwire_Reader_Int_run (rB rO : Nat) {W w : World} {R : List Own} {Φ : PW} [Stable Φ] {J : Value → World → Prop} (c : Ctx W w R Φ) (h : Bwire_Reader_Int rB rO W R Φ J) : Calls Tryz.prog F.wire_Reader_Int #[.pointer (some ⟨rB, rO, none⟩)] w fun e w' => ∃ v, e = .returned v ∧ J v w' :=
  vcFS_sound (H := { keep := some [0, 2] }) (by rw [show vcFS Tryz.prog W { keep := some [0, 2] } F.wire_Reader_Int #[.pointer (some ⟨rB, rO, none⟩)] R Φ J = Bwire_Reader_Int rB rO W R Φ J by kernel_rfl]; exact h) c

/-- (*wire.Reader).Num -/
def Bwire_Reader_Num (rB rO : Nat) (W : World) (R : List Own) (Φ : PW) (J : Value → World → Prop) : Prop :=
  ∀ (w0 : World) (R1 : List Own), Ctx W w0 (R ++ R1) Φ → Calls Tryz.prog F.wire_Reader_number #[Value.pointer (some (Addr.mk rB rO none)), Value.int IntKind.u8 59, Value.int IntKind.i64 0] w0
  fun (e2 : Ending) (w3 : World) => ∃ (n4 : Int), e2 = Ending.returned (Value.int IntKind.i64 n4) ∧ ∃ (R5 : List Own), ∃ (Φ6 : PW), Stable Φ6 ∧ Ctx W w3 (R5 ++ R1) Φ6 ∧ ∀ (w7 : World) (R8 :
  List Own), Ctx W w7 (R5 ++ R8) Φ6 → J (Value.int IntKind.i64 n4) w7

theorem Bwire_Reader_Num_run (rB rO : Nat) {W w : World} {R : List Own} {Φ : PW} [Stable Φ] {J : Value → World → Prop} (c : Ctx W w R Φ) (h : Bwire_Reader_Num rB rO W R Φ J) : Calls Tryz.prog F.wire_Reader_Num #[.pointer (some ⟨rB, rO, none⟩)] w fun e w' => ∃ v, e = .returned v ∧ J v w' :=
  vcFS_sound (H := { keep := some [0, 2] }) (by rw [show vcFS Tryz.prog W { keep := some [0, 2] } F.wire_Reader_Num #[.pointer (some ⟨rB, rO, none⟩)] R Φ J = Bwire_Reader_Num rB rO W R Φ J by kernel_rfl]; exact h) c

/-- (*wire.Reader).Text -/
def Bwire_Reader_Text (rB rO : Nat) (W : World) (R : List Own) (Φ : PW) (J : Value → World → Prop) : Prop :=
  ∀ (w0 : World) (R1 : List Own), Ctx W w0 (R ++ R1) Φ → Calls Tryz.prog F.wire_Reader_number #[Value.pointer (some (Addr.mk rB rO none)), Value.int IntKind.u8 58, Value.int IntKind.i64 0] w0
  fun (e2 : Ending) (w3 : World) => ∃ (n4 : Int), e2 = Ending.returned (Value.int IntKind.i64 n4) ∧ ∃ (R5 : List Own), ∃ (Φ6 : PW), Stable Φ6 ∧ Ctx W w3 (R5 ++ R1) Φ6 ∧ ∀ (w7 : World) (R8 :
  List Own), Ctx W w7 (R5 ++ R8) Φ6 → ∃ (s9 : ByteArray), w7.cell? (Addr.mk rB rO none) = some (Value.string s9) ∧ Br (decide ((↑s9.size : Int) < n4)) (∀ (w10 : World) (R11 : List Own), Ctx W
  w10 (R5 ++ R11) Φ6 → Calls Tryz.prog F.wire_Reader_fail #[Value.pointer (some (Addr.mk rB rO none))] w10 fun (e12 : Ending) (w13 : World) => e12 = Ending.returned (Value.tuple #[]) ∧ ∃ (R14
  : List Own), ∃ (Φ15 : PW), Stable Φ15 ∧ Ctx W w13 (R14 ++ R11) Φ15 ∧ ∀ (w16 : World) (R17 : List Own), Ctx W w16 (R14 ++ R17) Φ15 → J (Value.string (ByteArray.mk #[])) w16) (∀ (w18 : World)
  (R19 : List Own), Ctx W w18 (R5 ++ R19) Φ6 → ∃ (s20 : ByteArray), w18.cell? (Addr.mk rB rO none) = some (Value.string s20) ∧ (0 ≤ n4 ∧ n4 ≤ (↑s20.size : Int)) ∧ ∀ (w21 : World) (R22 : List
  Own), Ctx W w21 (R5 ++ R22) Φ6 → ∃ (s23 : ByteArray), w21.cell? (Addr.mk rB rO none) = some (Value.string s23) ∧ (0 ≤ n4 ∧ n4 ≤ (↑s23.size : Int) ∧ s23.size ≤ s23.size) ∧ ∀ (w24 : World)
  (R25 : List Own), Ctx W w24 (R5 ++ R25) Φ6 → CanWrite w24 rB rO 1 ∧ ∀ (w26 : World), w26 = w24.setCell (Addr.mk rB rO none) (Value.string (s23.extract n4.toNat s23.size)) → ∃ (R27 : List
  Own), ∃ (Φ28 : PW), Stable Φ28 ∧ Ctx W w26 (R27 ++ R25) Φ28 ∧ ∀ (w29 : World) (R30 : List Own), Ctx W w29 (R27 ++ R30) Φ28 → Calls Tryz.prog F.wire_Reader_close #[Value.pointer (some
  (Addr.mk rB rO none)), Value.string (ByteArray.mk #[OfNat.ofNat 44])] w29 fun (e31 : Ending) (w32 : World) => e31 = Ending.returned (Value.tuple #[]) ∧ ∃ (R33 : List Own), ∃ (Φ34 : PW),
  Stable Φ34 ∧ Ctx W w32 (R33 ++ R30) Φ34 ∧ ∀ (w35 : World) (R36 : List Own), Ctx W w35 (R33 ++ R36) Φ34 → ∃ (c37 : Bool), w35.cell? (Addr.mk rB (rO + 1) none) = some (Value.bool c37) ∧ Br
  c37 (∀ (w38 : World) (R39 : List Own), Ctx W w38 (R33 ++ R39) Φ34 → J (Value.string (ByteArray.mk #[])) w38) (∀ (w40 : World) (R41 : List Own), Ctx W w40 (R33 ++ R41) Φ34 → J (Value.string
  (s20.extract 0 n4.toNat)) w40))

theorem Bwire_Reader_Text_run (rB rO : Nat) {W w : World} {R : List Own} {Φ : PW} [Stable Φ] {J : Value → World → Prop} (c : Ctx W w R Φ) (h : Bwire_Reader_Text rB rO W R Φ J) : Calls Tryz.prog F.wire_Reader_Text #[.pointer (some ⟨rB, rO, none⟩)] w fun e w' => ∃ v, e = .returned v ∧ J v w' :=
  vcFS_sound (H := { keep := some [0, 2, 3, 4, 13, 36] }) (by rw [show vcFS Tryz.prog W { keep := some [0, 2, 3, 4, 13, 36] } F.wire_Reader_Text #[.pointer (some ⟨rB, rO, none⟩)] R Φ J = Bwire_Reader_Text rB rO W R Φ J by kernel_rfl]; exact h) c

/-- (*wire.Reader).Done -/
def Bwire_Reader_Done (rB rO : Nat) (W : World) (R : List Own) (Φ : PW) (J : Value → World → Prop) : Prop :=
  ∀ (w0 : World) (R1 : List Own), Ctx W w0 (R ++ R1) Φ → ∃ (c2 : Bool), w0.cell? (Addr.mk rB (rO + 1) none) = some (Value.bool c2) ∧ ∃ (s3 : ByteArray), ((!c2) = true → w0.cell? (Addr.mk rB
  rO none) = some (Value.string s3)) ∧ ∀ (w4 : World) (R5 : List Own), Ctx W w4 (R ++ R5) Φ → J (Value.bool (!c2 && decide (s3 = ByteArray.mk #[]))) w4

theorem Bwire_Reader_Done_run (rB rO : Nat) {W w : World} {R : List Own} {Φ : PW} [Stable Φ] {J : Value → World → Prop} (c : Ctx W w R Φ) (h : Bwire_Reader_Done rB rO W R Φ J) : Calls Tryz.prog F.wire_Reader_Done #[.pointer (some ⟨rB, rO, none⟩)] w fun e w' => ∃ v, e = .returned v ∧ J v w' :=
  vcFS_sound (H := { keep := some [0, 2] }) (by rw [show vcFS Tryz.prog W { keep := some [0, 2] } F.wire_Reader_Done #[.pointer (some ⟨rB, rO, none⟩)] R Φ J = Bwire_Reader_Done rB rO W R Φ J by kernel_rfl]; exact h) c

/-- (*strings.Builder).WriteString -/
def Bstrings_Builder_WriteString (bB bO : Nat) (s : ByteArray) (W : World) (R : List Own) (Φ : PW) (J : Value → World → Prop) : Prop :=
  ∀ (w0 : World) (R1 : List Own), Ctx W w0 (R ++ R1) Φ → Calls Tryz.prog F.strings_Builder_copyCheck #[Value.pointer (some (Addr.mk bB bO none))] w0 fun (e2 : Ending) (w3 : World) => e2 =
  Ending.returned (Value.tuple #[]) ∧ ∃ (R4 : List Own), ∃ (Φ5 : PW), Stable Φ5 ∧ Ctx W w3 (R4 ++ R1) Φ5 ∧ ∀ (w6 : World) (R7 : List Own), Ctx W w6 (R4 ++ R7) Φ5 → ∃ (p8 : Option Addr), ∃ (k9
  : Nat), ∃ (k10 : Nat), w6.cell? (Addr.mk bB (bO + 1) none) = some (Value.slice p8 k9 k10) ∧ ∀ (w11 : World) (R12 : List Own), Ctx W w11 (R4 ++ R12) Φ5 → ∃ (p13 : Option Addr), ∃ (k14 :
  Nat), ∃ (k15 : Nat), ∃ (w16 : World), Sem.run Tryz.prog (builtin Builtin.append #[87, 9] 87 #[false, false] #[Value.slice p8 k9 k10, Value.string s]) w11 = Result.ok (Next.value
  (Value.slice p13 k14 k15)) w16 ∧ ∃ (R17 : List Own), ∃ (Φ18 : PW), Stable Φ18 ∧ Ctx W w16 (R17 ++ R12) Φ18 ∧ ∀ (w19 : World) (R20 : List Own), Ctx W w19 (R17 ++ R20) Φ18 → CanWrite w19 bB
  (bO + 1) 1 ∧ ∀ (w21 : World), w21 = w19.setCell (Addr.mk bB (bO + 1) none) (Value.slice p13 k14 k15) → ∃ (R22 : List Own), ∃ (Φ23 : PW), Stable Φ23 ∧ Ctx W w21 (R22 ++ R20) Φ23 ∧ ∀ (w24 :
  World) (R25 : List Own), Ctx W w24 (R22 ++ R25) Φ23 → J (Value.tuple #[Value.int IntKind.i64 (↑s.size : Int), Value.nilIface]) w24

theorem Bstrings_Builder_WriteString_run (bB bO : Nat) (s : ByteArray) {W w : World} {R : List Own} {Φ : PW} [Stable Φ] {J : Value → World → Prop} (c : Ctx W w R Φ) (h : Bstrings_Builder_WriteString bB bO s W R Φ J) : Calls Tryz.prog F.strings_Builder_WriteString #[.pointer (some ⟨bB, bO, none⟩), .string s] w fun e w' => ∃ v, e = .returned v ∧ J v w' :=
  vcFS_sound (H := { keep := some [0, 1, 4, 5] }) (by rw [show vcFS Tryz.prog W { keep := some [0, 1, 4, 5] } F.strings_Builder_WriteString #[.pointer (some ⟨bB, bO, none⟩), .string s] R Φ J = Bstrings_Builder_WriteString bB bO s W R Φ J by kernel_rfl]; exact h) c

/-- wire.Int -/
def Bwire_Int (n : Int) (W : World) (R : List Own) (Φ : PW) (J : Value → World → Prop) : Prop :=
  ∀ (w0 : World) (R1 : List Own), Ctx W w0 (R ++ R1) Φ → Calls Tryz.prog F.strconv_Itoa #[Value.int IntKind.i64 n] w0 fun (e2 : Ending) (w3 : World) => ∃ (s4 : ByteArray), e2 =
  Ending.returned (Value.string s4) ∧ ∃ (R5 : List Own), ∃ (Φ6 : PW), Stable Φ6 ∧ Ctx W w3 (R5 ++ R1) Φ6 ∧ (s4.size + (ByteArray.mk #[OfNat.ofNat 59]).size).le 9223372036854775807 ∧ ∀ (w7 :
  World) (R8 : List Own), Ctx W w7 (R5 ++ R8) Φ6 → J (Value.string (s4 ++ ByteArray.mk #[OfNat.ofNat 59])) w7

theorem Bwire_Int_run (n : Int) {W w : World} {R : List Own} {Φ : PW} [Stable Φ] {J : Value → World → Prop} (c : Ctx W w R Φ) (h : Bwire_Int n W R Φ J) : Calls Tryz.prog F.wire_Int #[.int .i64 n] w fun e w' => ∃ v, e = .returned v ∧ J v w' :=
  vcFS_sound (H := { keep := some [0, 2] }) (by rw [show vcFS Tryz.prog W { keep := some [0, 2] } F.wire_Int #[.int .i64 n] R Φ J = Bwire_Int n W R Φ J by kernel_rfl]; exact h) c

/-- wire.Num -/
def Bwire_Num (n : Int) (W : World) (R : List Own) (Φ : PW) (J : Value → World → Prop) : Prop :=
  Br (decide (n < 0)) (∀ (w0 : World) (R1 : List Own), Ctx W w0 (R ++ R1) Φ → J (Value.string (ByteArray.mk #[])) w0) (∀ (w2 : World) (R3 : List Own), Ctx W w2 (R ++ R3) Φ → Calls Tryz.prog
  F.wire_Int #[Value.int IntKind.i64 n] w2 fun (e4 : Ending) (w5 : World) => ∃ (s6 : ByteArray), e4 = Ending.returned (Value.string s6) ∧ ∃ (R7 : List Own), ∃ (Φ8 : PW), Stable Φ8 ∧ Ctx W w5
  (R7 ++ R3) Φ8 ∧ ∀ (w9 : World) (R10 : List Own), Ctx W w9 (R7 ++ R10) Φ8 → J (Value.string s6) w9)

theorem Bwire_Num_run (n : Int) {W w : World} {R : List Own} {Φ : PW} [Stable Φ] {J : Value → World → Prop} (c : Ctx W w R Φ) (h : Bwire_Num n W R Φ J) : Calls Tryz.prog F.wire_Num #[.int .i64 n] w fun e w' => ∃ v, e = .returned v ∧ J v w' :=
  vcFS_sound (H := { keep := some [0, 2, 4] }) (by rw [show vcFS Tryz.prog W { keep := some [0, 2, 4] } F.wire_Num #[.int .i64 n] R Φ J = Bwire_Num n W R Φ J by kernel_rfl]; exact h) c

/-- wire.Text -/
def Bwire_Text (s : ByteArray) (W : World) (R : List Own) (Φ : PW) (J : Value → World → Prop) : Prop :=
  ∀ (w0 : World) (R1 : List Own), Ctx W w0 (R ++ R1) Φ → Calls Tryz.prog F.strconv_Itoa #[Value.int IntKind.i64 (↑s.size : Int)] w0 fun (e2 : Ending) (w3 : World) => ∃ (s4 : ByteArray), e2 =
  Ending.returned (Value.string s4) ∧ ∃ (R5 : List Own), ∃ (Φ6 : PW), Stable Φ6 ∧ Ctx W w3 (R5 ++ R1) Φ6 ∧ (s4.size + (ByteArray.mk #[OfNat.ofNat 58]).size).le 9223372036854775807 ∧ ((s4 ++
  ByteArray.mk #[OfNat.ofNat 58]).size + s.size).le 9223372036854775807 ∧ ((s4 ++ ByteArray.mk #[OfNat.ofNat 58] ++ s).size + (ByteArray.mk #[OfNat.ofNat 44]).size).le 9223372036854775807 ∧ ∀
  (w7 : World) (R8 : List Own), Ctx W w7 (R5 ++ R8) Φ6 → J (Value.string (s4 ++ ByteArray.mk #[OfNat.ofNat 58] ++ s ++ ByteArray.mk #[OfNat.ofNat 44])) w7

theorem Bwire_Text_run (s : ByteArray) {W w : World} {R : List Own} {Φ : PW} [Stable Φ] {J : Value → World → Prop} (c : Ctx W w R Φ) (h : Bwire_Text s W R Φ J) : Calls Tryz.prog F.wire_Text #[.string s] w fun e w' => ∃ v, e = .returned v ∧ J v w' :=
  vcFS_sound (H := { keep := some [0, 2] }) (by rw [show vcFS Tryz.prog W { keep := some [0, 2] } F.wire_Text #[.string s] R Φ J = Bwire_Text s W R Φ J by kernel_rfl]; exact h) c

/-- (*wire.Reader).number -/
def Bwire_Reader_number (rB rO : Nat) (endx : Int) (least : Int) (W : World) (R : List Own) (Φ : PW) (J : Value → World → Prop) : Prop :=
  ∀ (w0 : World) (R1 : List Own), Ctx W w0 (R ++ R1) Φ → ∃ (s2 : ByteArray), w0.cell? (Addr.mk rB rO none) = some (Value.string s2) ∧ ∃ (s3 : ByteArray), w0.cell? (Addr.mk rB rO none) = some
  (Value.string s3) ∧ (0 ≤ min (↑s3.size : Int) 21 ∧ min (↑s3.size : Int) 21 ≤ (↑s2.size : Int)) ∧ ∀ (w4 : World) (R5 : List Own), Ctx W w4 (R ++ R5) Φ → Calls Tryz.prog F.strings_IndexByte
  #[Value.string (s2.extract 0 (min (↑s3.size : Int) 21).toNat), Value.int IntKind.u8 endx] w4 fun (e6 : Ending) (w7 : World) => ∃ (n8 : Int), e6 = Ending.returned (Value.int IntKind.i64 n8)
  ∧ ∃ (R9 : List Own), ∃ (Φ10 : PW), Stable Φ10 ∧ Ctx W w7 (R9 ++ R5) Φ10 ∧ Br (decide (n8 < 0)) (∀ (w11 : World) (R12 : List Own), Ctx W w11 (R9 ++ R12) Φ10 → Calls Tryz.prog
  F.wire_Reader_fail #[Value.pointer (some (Addr.mk rB rO none))] w11 fun (e13 : Ending) (w14 : World) => e13 = Ending.returned (Value.tuple #[]) ∧ ∃ (R15 : List Own), ∃ (Φ16 : PW), Stable
  Φ16 ∧ Ctx W w14 (R15 ++ R12) Φ16 ∧ ∀ (w17 : World) (R18 : List Own), Ctx W w17 (R15 ++ R18) Φ16 → J (Value.int IntKind.i64 0) w17) ((0 ≤ n8 ∧ n8 ≤ (↑(s2.extract 0 (min (↑s3.size : Int)
  21).toNat).size : Int)) ∧ ∀ (w19 : World) (R20 : List Own), Ctx W w19 (R9 ++ R20) Φ10 → Calls Tryz.prog F.strconv_Atoi #[Value.string ((s2.extract 0 (min (↑s3.size : Int) 21).toNat).extract
  0 n8.toNat)] w19 fun (e21 : Ending) (w22 : World) => (∃ (n23 : Int), e21 = Ending.returned (Value.tuple #[Value.int IntKind.i64 n23, Value.nilIface]) ∧ ∃ (R24 : List Own), ∃ (Φ25 : PW),
  Stable Φ25 ∧ Ctx W w22 (R24 ++ R20) Φ25 ∧ ∃ (R26 : List Own), ∃ (Φ27 : PW), Stable Φ27 ∧ (∀ (w28 : World) (R29 : List Own), Ctx W w28 (R24 ++ R29) Φ25 → Ctx W w28 (R26 ++ R29) Φ27) ∧ ∃ (c30
  : Bool), (∀ (w31 : World), Sem.run Tryz.prog ((eqGuard BinOp.neq 91 (Operand.tmp 36) (Operand.const Value.nilIface) Value.nilIface Value.nilIface) >>= fun _ => binOp BinOp.neq 91
  Value.nilIface Value.nilIface) w31 = Result.ok (Value.bool c30) w31) ∧ Br c30 (∀ (w33 : World) (R34 : List Own), Ctx W w33 (R24 ++ R34) Φ25 → Calls Tryz.prog F.wire_Reader_fail
  #[Value.pointer (some (Addr.mk rB rO none))] w33 fun (e35 : Ending) (w36 : World) => e35 = Ending.returned (Value.tuple #[]) ∧ ∃ (R37 : List Own), ∃ (Φ38 : PW), Stable Φ38 ∧ Ctx W w36 (R37
  ++ R34) Φ38 ∧ ∀ (w39 : World) (R40 : List Own), Ctx W w39 (R37 ++ R40) Φ38 → J (Value.int IntKind.i64 0) w39) ((0 ≤ n8 ∧ n8 ≤ (↑(s2.extract 0 (min (↑s3.size : Int) 21).toNat).size : Int)) ∧
  ∀ (w41 : World) (R42 : List Own), Ctx W w41 (R24 ++ R42) Φ25 → Calls Tryz.prog F.strconv_Itoa #[Value.int IntKind.i64 n23] w41 fun (e43 : Ending) (w44 : World) => ∃ (s45 : ByteArray), e43 =
  Ending.returned (Value.string s45) ∧ ∃ (R46 : List Own), ∃ (Φ47 : PW), Stable Φ47 ∧ Ctx W w44 (R46 ++ R42) Φ47 ∧ (∀ (w48 : World) (R49 : List Own), Ctx W w48 (R46 ++ R49) Φ47 → Ctx W w48
  (R26 ++ R49) Φ27) ∧ Br (decide (s45 ≠ (s2.extract 0 (min (↑s3.size : Int) 21).toNat).extract 0 n8.toNat)) (∀ (w50 : World) (R51 : List Own), Ctx W w50 (R46 ++ R51) Φ47 → Calls Tryz.prog
  F.wire_Reader_fail #[Value.pointer (some (Addr.mk rB rO none))] w50 fun (e52 : Ending) (w53 : World) => e52 = Ending.returned (Value.tuple #[]) ∧ ∃ (R54 : List Own), ∃ (Φ55 : PW), Stable
  Φ55 ∧ Ctx W w53 (R54 ++ R51) Φ55 ∧ ∀ (w56 : World) (R57 : List Own), Ctx W w56 (R54 ++ R57) Φ55 → J (Value.int IntKind.i64 0) w56) (Br (decide (n23 < least)) (∀ (w58 : World) (R59 : List
  Own), Ctx W w58 (R46 ++ R59) Φ47 → Calls Tryz.prog F.wire_Reader_fail #[Value.pointer (some (Addr.mk rB rO none))] w58 fun (e60 : Ending) (w61 : World) => e60 = Ending.returned (Value.tuple
  #[]) ∧ ∃ (R62 : List Own), ∃ (Φ63 : PW), Stable Φ63 ∧ Ctx W w61 (R62 ++ R59) Φ63 ∧ ∀ (w64 : World) (R65 : List Own), Ctx W w64 (R62 ++ R65) Φ63 → J (Value.int IntKind.i64 0) w64) (∀ (w66 :
  World) (R67 : List Own), Ctx W w66 (R46 ++ R67) Φ47 → ∃ (s68 : ByteArray), w66.cell? (Addr.mk rB rO none) = some (Value.string s68) ∧ I64 (n8 + 1) ∧ (0 ≤ n8 + 1 ∧ n8 + 1 ≤ (↑s68.size : Int)
  ∧ s68.size ≤ s68.size) ∧ ∀ (w69 : World) (R70 : List Own), Ctx W w69 (R46 ++ R70) Φ47 → CanWrite w69 rB rO 1 ∧ ∀ (w71 : World), w71 = w69.setCell (Addr.mk rB rO none) (Value.string
  (s68.extract (n8 + 1).toNat s68.size)) → ∃ (R72 : List Own), ∃ (Φ73 : PW), Stable Φ73 ∧ Ctx W w71 (R72 ++ R70) Φ73 ∧ ∀ (w74 : World) (R75 : List Own), Ctx W w74 (R72 ++ R75) Φ73 → J
  (Value.int IntKind.i64 n23) w74)))) ∨ ∃ (n76 : Int), ∃ (u77 : TypeId), ∃ (v78 : Value), e21 = Ending.returned (Value.tuple #[Value.int IntKind.i64 n76, Value.iface u77 v78]) ∧ ∃ (R79 : List
  Own), ∃ (Φ80 : PW), Stable Φ80 ∧ Ctx W w22 (R79 ++ R20) Φ80 ∧ ∃ (R81 : List Own), ∃ (Φ82 : PW), Stable Φ82 ∧ (∀ (w83 : World) (R84 : List Own), Ctx W w83 (R79 ++ R84) Φ80 → Ctx W w83 (R81
  ++ R84) Φ82) ∧ ∃ (c85 : Bool), (∀ (w86 : World), Sem.run Tryz.prog ((eqGuard BinOp.neq 91 (Operand.tmp 36) (Operand.const Value.nilIface) (Value.iface u77 v78) Value.nilIface) >>= fun _ =>
  binOp BinOp.neq 91 (Value.iface u77 v78) Value.nilIface) w86 = Result.ok (Value.bool c85) w86) ∧ Br c85 (∀ (w88 : World) (R89 : List Own), Ctx W w88 (R79 ++ R89) Φ80 → Calls Tryz.prog
  F.wire_Reader_fail #[Value.pointer (some (Addr.mk rB rO none))] w88 fun (e90 : Ending) (w91 : World) => e90 = Ending.returned (Value.tuple #[]) ∧ ∃ (R92 : List Own), ∃ (Φ93 : PW), Stable
  Φ93 ∧ Ctx W w91 (R92 ++ R89) Φ93 ∧ ∀ (w94 : World) (R95 : List Own), Ctx W w94 (R92 ++ R95) Φ93 → J (Value.int IntKind.i64 0) w94) ((0 ≤ n8 ∧ n8 ≤ (↑(s2.extract 0 (min (↑s3.size : Int)
  21).toNat).size : Int)) ∧ ∀ (w96 : World) (R97 : List Own), Ctx W w96 (R79 ++ R97) Φ80 → Calls Tryz.prog F.strconv_Itoa #[Value.int IntKind.i64 n76] w96 fun (e98 : Ending) (w99 : World) =>
  ∃ (s100 : ByteArray), e98 = Ending.returned (Value.string s100) ∧ ∃ (R101 : List Own), ∃ (Φ102 : PW), Stable Φ102 ∧ Ctx W w99 (R101 ++ R97) Φ102 ∧ (∀ (w103 : World) (R104 : List Own), Ctx W
  w103 (R101 ++ R104) Φ102 → Ctx W w103 (R81 ++ R104) Φ82) ∧ Br (decide (s100 ≠ (s2.extract 0 (min (↑s3.size : Int) 21).toNat).extract 0 n8.toNat)) (∀ (w105 : World) (R106 : List Own), Ctx W
  w105 (R101 ++ R106) Φ102 → Calls Tryz.prog F.wire_Reader_fail #[Value.pointer (some (Addr.mk rB rO none))] w105 fun (e107 : Ending) (w108 : World) => e107 = Ending.returned (Value.tuple
  #[]) ∧ ∃ (R109 : List Own), ∃ (Φ110 : PW), Stable Φ110 ∧ Ctx W w108 (R109 ++ R106) Φ110 ∧ ∀ (w111 : World) (R112 : List Own), Ctx W w111 (R109 ++ R112) Φ110 → J (Value.int IntKind.i64 0)
  w111) (Br (decide (n76 < least)) (∀ (w113 : World) (R114 : List Own), Ctx W w113 (R101 ++ R114) Φ102 → Calls Tryz.prog F.wire_Reader_fail #[Value.pointer (some (Addr.mk rB rO none))] w113
  fun (e115 : Ending) (w116 : World) => e115 = Ending.returned (Value.tuple #[]) ∧ ∃ (R117 : List Own), ∃ (Φ118 : PW), Stable Φ118 ∧ Ctx W w116 (R117 ++ R114) Φ118 ∧ ∀ (w119 : World) (R120 :
  List Own), Ctx W w119 (R117 ++ R120) Φ118 → J (Value.int IntKind.i64 0) w119) (∀ (w121 : World) (R122 : List Own), Ctx W w121 (R101 ++ R122) Φ102 → ∃ (s123 : ByteArray), w121.cell? (Addr.mk
  rB rO none) = some (Value.string s123) ∧ I64 (n8 + 1) ∧ (0 ≤ n8 + 1 ∧ n8 + 1 ≤ (↑s123.size : Int) ∧ s123.size ≤ s123.size) ∧ ∀ (w124 : World) (R125 : List Own), Ctx W w124 (R101 ++ R125)
  Φ102 → CanWrite w124 rB rO 1 ∧ ∀ (w126 : World), w126 = w124.setCell (Addr.mk rB rO none) (Value.string (s123.extract (n8 + 1).toNat s123.size)) → ∃ (R127 : List Own), ∃ (Φ128 : PW), Stable
  Φ128 ∧ Ctx W w126 (R127 ++ R125) Φ128 ∧ ∀ (w129 : World) (R130 : List Own), Ctx W w129 (R127 ++ R130) Φ128 → J (Value.int IntKind.i64 n76) w129))))

theorem Bwire_Reader_number_run (rB rO : Nat) (endx : Int) (least : Int) {W w : World} {R : List Own} {Φ : PW} [Stable Φ] {J : Value → World → Prop} (c : Ctx W w R Φ) (h : Bwire_Reader_number rB rO endx least W R Φ J) : Calls Tryz.prog F.wire_Reader_number #[.pointer (some ⟨rB, rO, none⟩), .int .u8 endx, .int .i64 least] w fun e w' => ∃ v, e = .returned v ∧ J v w' :=
  vcFS_sound (H := { keep := some [0, 1, 2, 6, 7, 8, 9, 10, 26, 50], stages := [(7, [.held [(0, true), (1, true), (2, true), (3, true), (5, true), (6, true), (7, true), (4, false)], .stage [8, 9, 10, 11, 12, 13, 14] none])] }) (by rw [show vcFS Tryz.prog W { keep := some [0, 1, 2, 6, 7, 8, 9, 10, 26, 50], stages := [(7, [.held [(0, true), (1, true), (2, true), (3, true), (5, true), (6, true), (7, true), (4, false)], .stage [8, 9, 10, 11, 12, 13, 14] none])] } F.wire_Reader_number #[.pointer (some ⟨rB, rO, none⟩), .int .u8 endx, .int .i64 least] R Φ J = Bwire_Reader_number rB rO endx least W R Φ J by kernel_rfl]; exact h) c

/-- (*wire.Reader).fail -/
def Bwire_Reader_fail (rB rO : Nat) (W : World) (R : List Own) (Φ : PW) (J : Value → World → Prop) : Prop :=
  ∀ (w0 : World) (R1 : List Own), Ctx W w0 (R ++ R1) Φ → CanWrite w0 rB rO 1 ∧ ∀ (w2 : World), w2 = w0.setCell (Addr.mk rB rO none) (Value.string (ByteArray.mk #[])) → ∃ (R3 : List Own), ∃
  (Φ4 : PW), Stable Φ4 ∧ Ctx W w2 (R3 ++ R1) Φ4 ∧ ∀ (w5 : World) (R6 : List Own), Ctx W w5 (R3 ++ R6) Φ4 → CanWrite w5 rB (rO + 1) 1 ∧ ∀ (w7 : World), w7 = w5.setCell (Addr.mk rB (rO + 1)
  none) (Value.bool true) → ∃ (R8 : List Own), ∃ (Φ9 : PW), Stable Φ9 ∧ Ctx W w7 (R8 ++ R6) Φ9 ∧ ∀ (w10 : World) (R11 : List Own), Ctx W w10 (R8 ++ R11) Φ9 → J (Value.tuple #[]) w10

theorem Bwire_Reader_fail_run (rB rO : Nat) {W w : World} {R : List Own} {Φ : PW} [Stable Φ] {J : Value → World → Prop} (c : Ctx W w R Φ) (h : Bwire_Reader_fail rB rO W R Φ J) : Calls Tryz.prog F.wire_Reader_fail #[.pointer (some ⟨rB, rO, none⟩)] w fun e w' => ∃ v, e = .returned v ∧ J v w' :=
  vcFS_sound (H := { keep := some [] }) (by rw [show vcFS Tryz.prog W { keep := some [] } F.wire_Reader_fail #[.pointer (some ⟨rB, rO, none⟩)] R Φ J = Bwire_Reader_fail rB rO W R Φ J by kernel_rfl]; exact h) c

/-- (*wire.Reader).close -/
def Bwire_Reader_close (rB rO : Nat) (endx : ByteArray) (W : World) (R : List Own) (Φ : PW) (J : Value → World → Prop) : Prop :=
  ∀ (w0 : World) (R1 : List Own), Ctx W w0 (R ++ R1) Φ → ∃ (s2 : ByteArray), w0.cell? (Addr.mk rB rO none) = some (Value.string s2) ∧ ∀ (w3 : World) (R4 : List Own), Ctx W w3 (R ++ R4) Φ →
  Calls Tryz.prog F.strings_CutPrefix #[Value.string s2, Value.string endx] w3 fun (e5 : Ending) (w6 : World) => ∃ (s7 : ByteArray), ∃ (c8 : Bool), e5 = Ending.returned (Value.tuple
  #[Value.string s7, Value.bool c8]) ∧ ∃ (R9 : List Own), ∃ (Φ10 : PW), Stable Φ10 ∧ Ctx W w6 (R9 ++ R4) Φ10 ∧ ∀ (w11 : World) (R12 : List Own), Ctx W w11 (R9 ++ R12) Φ10 → CanWrite w11 rB rO
  1 ∧ ∀ (w13 : World), w13 = w11.setCell (Addr.mk rB rO none) (Value.string s7) → ∃ (R14 : List Own), ∃ (Φ15 : PW), Stable Φ15 ∧ Ctx W w13 (R14 ++ R12) Φ15 ∧ Br (!c8) (∀ (w16 : World) (R17 :
  List Own), Ctx W w16 (R14 ++ R17) Φ15 → Calls Tryz.prog F.wire_Reader_fail #[Value.pointer (some (Addr.mk rB rO none))] w16 fun (e18 : Ending) (w19 : World) => e18 = Ending.returned
  (Value.tuple #[]) ∧ ∃ (R20 : List Own), ∃ (Φ21 : PW), Stable Φ21 ∧ Ctx W w19 (R20 ++ R17) Φ21 ∧ ∀ (w22 : World) (R23 : List Own), Ctx W w22 (R20 ++ R23) Φ21 → J (Value.tuple #[]) w22) (∀
  (w24 : World) (R25 : List Own), Ctx W w24 (R14 ++ R25) Φ15 → J (Value.tuple #[]) w24)

theorem Bwire_Reader_close_run (rB rO : Nat) (endx : ByteArray) {W w : World} {R : List Own} {Φ : PW} [Stable Φ] {J : Value → World → Prop} (c : Ctx W w R Φ) (h : Bwire_Reader_close rB rO endx W R Φ J) : Calls Tryz.prog F.wire_Reader_close #[.pointer (some ⟨rB, rO, none⟩), .string endx] w fun e w' => ∃ v, e = .returned v ∧ J v w' :=
  vcFS_sound (H := { keep := some [0, 4, 5, 20] }) (by rw [show vcFS Tryz.prog W { keep := some [0, 4, 5, 20] } F.wire_Reader_close #[.pointer (some ⟨rB, rO, none⟩), .string endx] R Φ J = Bwire_Reader_close rB rO endx W R Φ J by kernel_rfl]; exact h) c

end Go.Proofs.YtebnciehcnedjaaGreatDoor
end

/-
  The conditions of the walks of some functions, one formula each; 'B<f>_run' says that they suffice. The formulas are printed by a program; the kernel compares them with the functions' code.
-/
section
namespace Go.Proofs.YtebnciehcnedjaaGreatDoor
set_option linter.unusedVariables false
set_option linter.unusedSimpArgs false
set_option maxRecDepth 100000
open Go.Vc

/-- errataref01.Open -/
def Berrataref01_Open (s : ByteArray) (W : World) (R : List Own) (Φ : PW) (J : Value → World → Prop) : Prop :=
  ∀ (k0 : Nat) (w1 : World) (R2 : List Own), Ctx W w1 (Own.blk k0 [Value.string s, Value.bool false] 112 :: R ++ R2) Φ → J (Value.pointer (some (Addr.mk k0 0 none))) w1

theorem Berrataref01_Open_run (s : ByteArray) {W w : World} {R : List Own} {Φ : PW} [Stable Φ] {J : Value → World → Prop} (c : Ctx W w R Φ) (h : Berrataref01_Open s W R Φ J) : Calls Tryz.prog F.errataref01_Open #[.string s] w fun e w' => ∃ v, e = .returned v ∧ J v w' :=
  vcFS_sound (H := { keep := some [0, 2] }) (by rw [show vcFS Tryz.prog W { keep := some [0, 2] } F.errataref01_Open #[.string s] R Φ J = Berrataref01_Open s W R Φ J by kernel_rfl]; exact h) c

/-- (*errataref01.Reader).Int -/
def Berrataref01_Reader_Int (rB rO : Nat) (W : World) (R : List Own) (Φ : PW) (J : Value → World → Prop) : Prop :=
  ∀ (w0 : World) (R1 : List Own), Ctx W w0 (R ++ R1) Φ → Calls Tryz.prog F.errataref01_Reader_ahead #[Value.pointer (some (Addr.mk rB rO none)), Value.int IntKind.u8 59] w0 fun (e2 : Ending)
  (w3 : World) => ∃ (n4 : Int), e2 = Ending.returned (Value.int IntKind.i64 n4) ∧ ∃ (R5 : List Own), ∃ (Φ6 : PW), Stable Φ6 ∧ Ctx W w3 (R5 ++ R1) Φ6 ∧ ∀ (w7 : World) (R8 : List Own), Ctx W w7
  (R5 ++ R8) Φ6 → J (Value.int IntKind.i64 n4) w7

theorem Berrataref01_Reader_Int_run (rB rO : Nat) {W w : World} {R : List Own} {Φ : PW} [Stable Φ] {J : Value → World → Prop} (c : Ctx W w R Φ) (h : Berrataref01_Reader_Int rB rO W R Φ J) : Calls Tryz.prog F.errataref01_Reader_Int #[.pointer (some ⟨rB, rO, none⟩)] w fun e w' => ∃ v, e = .returned v ∧ J v w' :=
  vcFS_sound (H := { keep := some [0, 2] }) (by rw [show vcFS Tryz.prog W { keep := some [0, 2] } F.errataref01_Reader_Int #[.pointer (some ⟨rB, rO, none⟩)] R Φ J = Berrataref01_Reader_Int rB rO W R Φ J by kernel_rfl]; exact h) c

/-- (*errataref01.Reader).Num -/
def Berrataref01_Reader_Num (rB rO : Nat) (W : World) (R : List Own) (Φ : PW) (J : Value → World → Prop) : Prop :=
  ∀ (w0 : World) (R1 : List Own), Ctx W w0 (R ++ R1) Φ → Calls Tryz.prog F.errataref01_Reader_number #[Value.pointer (some (Addr.mk rB rO none)), Value.int IntKind.u8 59] w0 fun (e2 : Ending)
  (w3 : World) => ∃ (n4 : Int), e2 = Ending.returned (Value.int IntKind.i64 n4) ∧ ∃ (R5 : List Own), ∃ (Φ6 : PW), Stable Φ6 ∧ Ctx W w3 (R5 ++ R1) Φ6 ∧ ∀ (w7 : World) (R8 : List Own), Ctx W w7
  (R5 ++ R8) Φ6 → J (Value.int IntKind.i64 n4) w7

theorem Berrataref01_Reader_Num_run (rB rO : Nat) {W w : World} {R : List Own} {Φ : PW} [Stable Φ] {J : Value → World → Prop} (c : Ctx W w R Φ) (h : Berrataref01_Reader_Num rB rO W R Φ J) : Calls Tryz.prog F.errataref01_Reader_Num #[.pointer (some ⟨rB, rO, none⟩)] w fun e w' => ∃ v, e = .returned v ∧ J v w' :=
  vcFS_sound (H := { keep := some [0, 2] }) (by rw [show vcFS Tryz.prog W { keep := some [0, 2] } F.errataref01_Reader_Num #[.pointer (some ⟨rB, rO, none⟩)] R Φ J = Berrataref01_Reader_Num rB rO W R Φ J by kernel_rfl]; exact h) c

/-- (*errataref01.Reader).Left -/
def Berrataref01_Reader_Left (rB rO : Nat) (W : World) (R : List Own) (Φ : PW) (J : Value → World → Prop) : Prop :=
  ∀ (w0 : World) (R1 : List Own), Ctx W w0 (R ++ R1) Φ → ∃ (s2 : ByteArray), w0.cell? (Addr.mk rB rO none) = some (Value.string s2) ∧ ∀ (w3 : World) (R4 : List Own), Ctx W w3 (R ++ R4) Φ → J
  (Value.int IntKind.i64 (↑s2.size : Int)) w3

theorem Berrataref01_Reader_Left_run (rB rO : Nat) {W w : World} {R : List Own} {Φ : PW} [Stable Φ] {J : Value → World → Prop} (c : Ctx W w R Φ) (h : Berrataref01_Reader_Left rB rO W R Φ J) : Calls Tryz.prog F.errataref01_Reader_Left #[.pointer (some ⟨rB, rO, none⟩)] w fun e w' => ∃ v, e = .returned v ∧ J v w' :=
  vcFS_sound (H := { keep := some [0, 2] }) (by rw [show vcFS Tryz.prog W { keep := some [0, 2] } F.errataref01_Reader_Left #[.pointer (some ⟨rB, rO, none⟩)] R Φ J = Berrataref01_Reader_Left rB rO W R Φ J by kernel_rfl]; exact h) c

/-- (*errataref01.Reader).Text -/
def Berrataref01_Reader_Text (rB rO : Nat) (W : World) (R : List Own) (Φ : PW) (J : Value → World → Prop) : Prop :=
  ∀ (w0 : World) (R1 : List Own), Ctx W w0 (R ++ R1) Φ → Calls Tryz.prog F.errataref01_Reader_number #[Value.pointer (some (Addr.mk rB rO none)), Value.int IntKind.u8 58] w0 fun (e2 : Ending)
  (w3 : World) => ∃ (n4 : Int), e2 = Ending.returned (Value.int IntKind.i64 n4) ∧ ∃ (R5 : List Own), ∃ (Φ6 : PW), Stable Φ6 ∧ Ctx W w3 (R5 ++ R1) Φ6 ∧ ∀ (w7 : World) (R8 : List Own), Ctx W w7
  (R5 ++ R8) Φ6 → ∃ (c9 : Bool), w7.cell? (Addr.mk rB (rO + 1) none) = some (Value.bool c9) ∧ ∃ (s10 : ByteArray), ((!c9) = true → w7.cell? (Addr.mk rB rO none) = some (Value.string s10)) ∧
  Br (c9 || decide ((↑s10.size : Int) ≤ n4)) (∀ (w11 : World) (R12 : List Own), Ctx W w11 (R5 ++ R12) Φ6 → Calls Tryz.prog F.errataref01_Reader_fail #[Value.pointer (some (Addr.mk rB rO
  none))] w11 fun (e13 : Ending) (w14 : World) => ∃ (n15 : Int), e13 = Ending.returned (Value.int IntKind.i64 n15) ∧ ∃ (R16 : List Own), ∃ (Φ17 : PW), Stable Φ17 ∧ Ctx W w14 (R16 ++ R12) Φ17
  ∧ ∀ (w18 : World) (R19 : List Own), Ctx W w18 (R16 ++ R19) Φ17 → J (Value.string (ByteArray.mk #[])) w18) (∀ (w20 : World) (R21 : List Own), Ctx W w20 (R5 ++ R21) Φ6 → ∃ (s22 : ByteArray),
  w20.cell? (Addr.mk rB rO none) = some (Value.string s22) ∧ (0 ≤ n4 ∧ n4 ≤ (↑s22.size : Int)) ∧ ∀ (w23 : World) (R24 : List Own), Ctx W w23 (R5 ++ R24) Φ6 → ∃ (s25 : ByteArray), w23.cell?
  (Addr.mk rB rO none) = some (Value.string s25) ∧ (0 ≤ n4 ∧ n4 ≤ (↑s25.size : Int) ∧ s25.size ≤ s25.size) ∧ ∀ (w26 : World) (R27 : List Own), Ctx W w26 (R5 ++ R27) Φ6 → CanWrite w26 rB rO 1
  ∧ ∀ (w28 : World), w28 = w26.setCell (Addr.mk rB rO none) (Value.string (s25.extract n4.toNat s25.size)) → ∃ (R29 : List Own), ∃ (Φ30 : PW), Stable Φ30 ∧ Ctx W w28 (R29 ++ R27) Φ30 ∧ ∀ (w31
  : World) (R32 : List Own), Ctx W w31 (R29 ++ R32) Φ30 → Calls Tryz.prog F.errataref01_Reader_close #[Value.pointer (some (Addr.mk rB rO none)), Value.int IntKind.u8 44] w31 fun (e33 :
  Ending) (w34 : World) => ∃ (c35 : Bool), e33 = Ending.returned (Value.bool c35) ∧ ∃ (R36 : List Own), ∃ (Φ37 : PW), Stable Φ37 ∧ Ctx W w34 (R36 ++ R32) Φ37 ∧ Br (!c35) (∀ (w38 : World) (R39
  : List Own), Ctx W w38 (R36 ++ R39) Φ37 → J (Value.string (ByteArray.mk #[])) w38) (∀ (w40 : World) (R41 : List Own), Ctx W w40 (R36 ++ R41) Φ37 → J (Value.string (s22.extract 0 n4.toNat))
  w40))

theorem Berrataref01_Reader_Text_run (rB rO : Nat) {W w : World} {R : List Own} {Φ : PW} [Stable Φ] {J : Value → World → Prop} (c : Ctx W w R Φ) (h : Berrataref01_Reader_Text rB rO W R Φ J) : Calls Tryz.prog F.errataref01_Reader_Text #[.pointer (some ⟨rB, rO, none⟩)] w fun e w' => ∃ v, e = .returned v ∧ J v w' :=
  vcFS_sound (H := { keep := some [0, 2, 3, 4, 19, 39] }) (by rw [show vcFS Tryz.prog W { keep := some [0, 2, 3, 4, 19, 39] } F.errataref01_Reader_Text #[.pointer (some ⟨rB, rO, none⟩)] R Φ J = Berrataref01_Reader_Text rB rO W R Φ J by kernel_rfl]; exact h) c

/-- (*errataref01.Reader).Done -/
def Berrataref01_Reader_Done (rB rO : Nat) (W : World) (R : List Own) (Φ : PW) (J : Value → World → Prop) : Prop :=
  ∀ (w0 : World) (R1 : List Own), Ctx W w0 (R ++ R1) Φ → ∃ (c2 : Bool), w0.cell? (Addr.mk rB (rO + 1) none) = some (Value.bool c2) ∧ ∃ (s3 : ByteArray), ((!c2) = true → w0.cell? (Addr.mk rB
  rO none) = some (Value.string s3)) ∧ ∀ (w4 : World) (R5 : List Own), Ctx W w4 (R ++ R5) Φ → J (Value.bool (!c2 && decide (s3 = ByteArray.mk #[]))) w4

theorem Berrataref01_Reader_Done_run (rB rO : Nat) {W w : World} {R : List Own} {Φ : PW} [Stable Φ] {J : Value → World → Prop} (c : Ctx W w R Φ) (h : Berrataref01_Reader_Done rB rO W R Φ J) : Calls Tryz.prog F.errataref01_Reader_Done #[.pointer (some ⟨rB, rO, none⟩)] w fun e w' => ∃ v, e = .returned v ∧ J v w' :=
  vcFS_sound (H := { keep := some [0, 2] }) (by rw [show vcFS Tryz.prog W { keep := some [0, 2] } F.errataref01_Reader_Done #[.pointer (some ⟨rB, rO, none⟩)] R Φ J = Berrataref01_Reader_Done rB rO W R Φ J by kernel_rfl]; exact h) c

/-- (*errataref29.Store).add -/
-- loop at region 0: ; blocks 
def Berrataref29_Store_add (sB sO : Nat) (level : Int) (runP : Option Addr) (runN runC : Nat) (W : World) (R : List Own) (Φ : PW) (J : Value → World → Prop) : Prop :=
  exI fun (I0 : List Own → PW → Nat → Prop) => (∃ (R1 : List Own), ∃ (Φ2 : PW), ∃ (k3 : Nat), Stable Φ2 ∧ (∀ (w4 : World) (R5 : List Own), Ctx W w4 (R ++ R5) Φ → Ctx W w4 (R1 ++ R5) Φ2) ∧ I0
  R1 Φ2 k3) ∧ ∀ (R6 : List Own) (I7 : List Nat → World → Prop) (k8 : Nat), Stable I7 → I0 R6 I7 k8 → ∀ (w9 : World) (R10 : List Own), Ctx W w9 (R6 ++ R10) I7 → ∃ (p11 : Option Addr), ∃ (k12 :
  Nat), ∃ (k13 : Nat), w9.cell? (Addr.mk sB (sO + 1) none) = some (Value.slice p11 k12 k13) ∧ Br (decide ((↑k12 : Int) ≤ level)) (∀ (w14 : World) (R15 : List Own), Ctx W w14 (R6 ++ R15) I7 →
  ∃ (p16 : Option Addr), ∃ (k17 : Nat), ∃ (k18 : Nat), w14.cell? (Addr.mk sB (sO + 1) none) = some (Value.slice p16 k17 k18) ∧ ∀ (k19 : Nat) (w20 : World) (R21 : List Own), Ctx W w20 (Own.blk
  k19 [Value.slice none 0 0] 103 :: R6 ++ R21) I7 → ∃ (p22 : Option Addr), ∃ (k23 : Nat), ∃ (k24 : Nat), ∃ (w25 : World), Sem.run Tryz.prog (builtin Builtin.append #[58, 58] 58 #[false,
  false] #[Value.slice p16 k17 k18, Value.slice (some (Addr.mk k19 0 none)) 1 1]) w20 = Result.ok (Next.value (Value.slice p22 k23 k24)) w25 ∧ ∃ (R26 : List Own), ∃ (Φ27 : PW), Stable Φ27 ∧
  Ctx W w25 (R26 ++ R21) Φ27 ∧ ∀ (w28 : World) (R29 : List Own), Ctx W w28 (R26 ++ R29) Φ27 → CanWrite w28 sB (sO + 1) 1 ∧ ∀ (w30 : World), w30 = w28.setCell (Addr.mk sB (sO + 1) none)
  (Value.slice p22 k23 k24) → ∃ (R31 : List Own), ∃ (Φ32 : PW), Stable Φ32 ∧ Ctx W w30 (R31 ++ R29) Φ32 ∧ ∃ (R33 : List Own), ∃ (Φ34 : PW), ∃ (k35 : Nat), Stable Φ34 ∧ (∀ (w36 : World) (R37 :
  List Own), Ctx W w36 (R31 ++ R37) Φ32 → Ctx W w36 (R33 ++ R37) Φ34) ∧ I0 R33 Φ34 k35 ∧ k35 < k8) (Br (decide (0 < (↑runN : Int))) (∃ (R38 : List Own), ∃ (Φ39 : PW), Stable Φ39 ∧ (∀ (w40 :
  World) (R41 : List Own), Ctx W w40 (R6 ++ R41) I7 → Ctx W w40 (R38 ++ R41) Φ39) ∧ ∃ (p42 : Option Addr), ∃ (k43 : Nat), ∃ (k44 : Nat), (∀ (w45 : World) (R46 : List Own), Ctx W w45 (R38 ++
  R46) Φ39 → ∃ (p47 : Option Addr), ∃ (k48 : Nat), ∃ (k49 : Nat), w45.cell? (Addr.mk sB (sO + 1) none) = some (Value.slice p47 k48 k49) ∧ Value.slice p47 k48 k49 = Value.slice p42 k43 k44) ∧
  ∃ (p50 : Option Addr), ∃ (k51 : Nat), ∃ (k52 : Nat), (∀ (w53 : World) (R54 : List Own), Ctx W w53 (R38 ++ R54) Φ39 → ∃ (p55 : Option Addr), ∃ (k56 : Nat), ∃ (k57 : Nat), w53.cell? (Addr.mk
  sB (sO + 1) none) = some (Value.slice p55 k56 k57) ∧ Value.slice p55 k56 k57 = Value.slice p50 k51 k52) ∧ (0 ≤ level ∧ level < (↑k51 : Int)) ∧ ptrK none p50 fun (k58 k59 : Nat) => ∃ (p60 :
  Option Addr), ∃ (k61 : Nat), ∃ (k62 : Nat), (∀ (w63 : World) (R64 : List Own), Ctx W w63 (R38 ++ R64) Φ39 → ∃ (p65 : Option Addr), ∃ (k66 : Nat), ∃ (k67 : Nat), w63.cell? (Addr.mk k58 (k59
  + level.toNat) none) = some (Value.slice p65 k66 k67) ∧ Value.slice p65 k66 k67 = Value.slice p60 k61 k62) ∧ ∀ (k68 : Nat), (∀ (w69 : World) (R70 : List Own), Ctx W w69 (Own.blk k68
  [Value.slice runP runN runC] 48 :: R6 ++ R70) I7 → Ctx W w69 (R38 ++ R70) Φ39) ∧ ∀ (w71 : World) (R72 : List Own), Ctx W w71 (Own.blk k68 [Value.slice runP runN runC] 48 :: R6 ++ R72) I7 →
  ∃ (p73 : Option Addr), ∃ (k74 : Nat), ∃ (k75 : Nat), ∃ (w76 : World), Sem.run Tryz.prog (builtin Builtin.append #[103, 103] 103 #[false, false] #[Value.slice (some (Addr.mk k68 0 none)) 1
  1, Value.slice p60 k61 k62]) w71 = Result.ok (Next.value (Value.slice p73 k74 k75)) w76 ∧ ∃ (R77 : List Own), ∃ (Φ78 : PW), Stable Φ78 ∧ Ctx W w76 (R77 ++ R72) Φ78 ∧ (∀ (w79 : World) (R80 :
  List Own), Ctx W w79 (R77 ++ R80) Φ78 → Ctx W w79 (R38 ++ R80) Φ39) ∧ (0 ≤ level ∧ level < (↑k43 : Int)) ∧ ptrK none p42 fun (k81 k82 : Nat) => ∀ (w83 : World) (R84 : List Own), Ctx W w83
  (R77 ++ R84) Φ78 → CanWrite w83 k81 (k82 + level.toNat) 1 ∧ ∀ (w85 : World), w85 = w83.setCell (Addr.mk k81 (k82 + level.toNat) none) (Value.slice p73 k74 k75) → ∃ (R86 : List Own), ∃ (Φ87
  : PW), Stable Φ87 ∧ Ctx W w85 (R86 ++ R84) Φ87 ∧ ∀ (w88 : World) (R89 : List Own), Ctx W w88 (R86 ++ R89) Φ87 → J (Value.tuple #[]) w88) (∀ (w90 : World) (R91 : List Own), Ctx W w90 (R6 ++
  R91) I7 → J (Value.tuple #[]) w90))

theorem Berrataref29_Store_add_run (sB sO : Nat) (level : Int) (runP : Option Addr) (runN runC : Nat) {W w : World} {R : List Own} {Φ : PW} [Stable Φ] {J : Value → World → Prop} (c : Ctx W w R Φ) (h : Berrataref29_Store_add sB sO level runP runN runC W R Φ J) : Calls Tryz.prog F.errataref29_Store_add #[.pointer (some ⟨sB, sO, none⟩), .int .i64 level, .slice runP runN runC] w fun e w' => ∃ v, e = .returned v ∧ J v w' :=
  vcFS_sound (H := { keep := some [0, 1, 2, 12, 24], stages := [(3, [.held [(0, true), (4, true), (5, true), (7, true), (11, true), (1, true), (8, true), (2, true), (9, true), (3, true), (10, true), (12, true), (13, true), (6, false), (14, false)], .stage [15] (some 16)])], loops := [(0, [], [])] }) (by rw [show vcFS Tryz.prog W { keep := some [0, 1, 2, 12, 24], stages := [(3, [.held [(0, true), (4, true), (5, true), (7, true), (11, true), (1, true), (8, true), (2, true), (9, true), (3, true), (10, true), (12, true), (13, true), (6, false), (14, false)], .stage [15] (some 16)])], loops := [(0, [], [])] } F.errataref29_Store_add #[.pointer (some ⟨sB, sO, none⟩), .int .i64 level, .slice runP runN runC] R Φ J = Berrataref29_Store_add sB sO level runP runN runC W R Φ J by kernel_rfl]; exact h) c

/-- errataref01.Int -/
def Berrataref01_Int (n : Int) (W : World) (R : List Own) (Φ : PW) (J : Value → World → Prop) : Prop :=
  Br (decide (n < 0)) (∀ (w0 : World) (R1 : List Own), Ctx W w0 (R ++ R1) Φ → Calls Tryz.prog F.errataref01_digits #[Value.int IntKind.i64 n] w0 fun (e2 : Ending) (w3 : World) => ∃ (s4 :
  ByteArray), e2 = Ending.returned (Value.string s4) ∧ ∃ (R5 : List Own), ∃ (Φ6 : PW), Stable Φ6 ∧ Ctx W w3 (R5 ++ R1) Φ6 ∧ ((ByteArray.mk #[OfNat.ofNat 45]).size + s4.size).le
  9223372036854775807 ∧ ((ByteArray.mk #[OfNat.ofNat 45] ++ s4).size + (ByteArray.mk #[OfNat.ofNat 59]).size).le 9223372036854775807 ∧ ∀ (w7 : World) (R8 : List Own), Ctx W w7 (R5 ++ R8) Φ6 →
  J (Value.string (ByteArray.mk #[OfNat.ofNat 45] ++ s4 ++ ByteArray.mk #[OfNat.ofNat 59])) w7) (I64 (0 - n) ∧ ∀ (w9 : World) (R10 : List Own), Ctx W w9 (R ++ R10) Φ → Calls Tryz.prog
  F.errataref01_digits #[Value.int IntKind.i64 (0 - n)] w9 fun (e11 : Ending) (w12 : World) => ∃ (s13 : ByteArray), e11 = Ending.returned (Value.string s13) ∧ ∃ (R14 : List Own), ∃ (Φ15 :
  PW), Stable Φ15 ∧ Ctx W w12 (R14 ++ R10) Φ15 ∧ (s13.size + (ByteArray.mk #[OfNat.ofNat 59]).size).le 9223372036854775807 ∧ ∀ (w16 : World) (R17 : List Own), Ctx W w16 (R14 ++ R17) Φ15 → J
  (Value.string (s13 ++ ByteArray.mk #[OfNat.ofNat 59])) w16)

theorem Berrataref01_Int_run (n : Int) {W w : World} {R : List Own} {Φ : PW} [Stable Φ] {J : Value → World → Prop} (c : Ctx W w R Φ) (h : Berrataref01_Int n W R Φ J) : Calls Tryz.prog F.errataref01_Int #[.int .i64 n] w fun e w' => ∃ v, e = .returned v ∧ J v w' :=
  vcFS_sound (H := { keep := some [0, 2, 4] }) (by rw [show vcFS Tryz.prog W { keep := some [0, 2, 4] } F.errataref01_Int #[.int .i64 n] R Φ J = Berrataref01_Int n W R Φ J by kernel_rfl]; exact h) c

/-- (*errataref01.Reader).ahead -/
-- loop at region 2: 5 n; blocks 
def Berrataref01_Reader_ahead (rB rO : Nat) (endx : Int) (W : World) (R : List Own) (Φ : PW) (J : Value → World → Prop) : Prop :=
  exI fun (I0 : Int → List Own → PW → Nat → Prop) => (∃ (R1 : List Own), ∃ (Φ2 : PW), ∃ (k3 : Nat), Stable Φ2 ∧ (∀ (w4 : World) (R5 : List Own), Ctx W w4 (R ++ R5) Φ → Ctx W w4 (R1 ++ R5) Φ2)
  ∧ I0 0 R1 Φ2 k3) ∧ ∀ (n6 : Int) (R7 : List Own) (I8 : List Nat → World → Prop) (k9 : Nat), Stable I8 → I0 n6 R7 I8 k9 → ∀ (w10 : World) (R11 : List Own), Ctx W w10 (R7 ++ R11) I8 → ∃ (s12 :
  ByteArray), w10.cell? (Addr.mk rB rO none) = some (Value.string s12) ∧ ∃ (s13 : ByteArray), ((decide (n6 < (↑s12.size : Int)) && decide (n6 < 21)) = true → w10.cell? (Addr.mk rB rO none) =
  some (Value.string s13)) ∧ ∃ (u14 : UInt8), ((decide (n6 < (↑s12.size : Int)) && decide (n6 < 21)) = true → 0 ≤ n6 ∧ s13.data.toList.get?Internal n6.toNat = some u14) ∧ Br (decide (n6 <
  (↑s12.size : Int)) && decide (n6 < 21) && decide ((↑u14.toNat : Int) ≠ endx)) (I64 (n6 + 1) ∧ ∃ (R15 : List Own), ∃ (Φ16 : PW), ∃ (k17 : Nat), Stable Φ16 ∧ (∀ (w18 : World) (R19 : List
  Own), Ctx W w18 (R7 ++ R19) I8 → Ctx W w18 (R15 ++ R19) Φ16) ∧ I0 (n6 + 1) R15 Φ16 k17 ∧ k17 < k9) (∀ (w20 : World) (R21 : List Own), Ctx W w20 (R7 ++ R21) I8 → ∃ (s22 : ByteArray),
  w20.cell? (Addr.mk rB rO none) = some (Value.string s22) ∧ Br (decide ((↑s22.size : Int) ≤ n6)) (∀ (w23 : World) (R24 : List Own), Ctx W w23 (R7 ++ R24) I8 → Calls Tryz.prog
  F.errataref01_Reader_fail #[Value.pointer (some (Addr.mk rB rO none))] w23 fun (e25 : Ending) (w26 : World) => ∃ (n27 : Int), e25 = Ending.returned (Value.int IntKind.i64 n27) ∧ ∃ (R28 :
  List Own), ∃ (Φ29 : PW), Stable Φ29 ∧ Ctx W w26 (R28 ++ R24) Φ29 ∧ ∀ (w30 : World) (R31 : List Own), Ctx W w30 (R28 ++ R31) Φ29 → J (Value.int IntKind.i64 n27) w30) (∀ (w32 : World) (R33 :
  List Own), Ctx W w32 (R7 ++ R33) I8 → ∃ (s34 : ByteArray), w32.cell? (Addr.mk rB rO none) = some (Value.string s34) ∧ ∃ (u35 : UInt8), (0 ≤ n6 ∧ s34.data.toList.get?Internal n6.toNat = some
  u35) ∧ Br (decide ((↑u35.toNat : Int) ≠ endx)) (∀ (w36 : World) (R37 : List Own), Ctx W w36 (R7 ++ R37) I8 → Calls Tryz.prog F.errataref01_Reader_fail #[Value.pointer (some (Addr.mk rB rO
  none))] w36 fun (e38 : Ending) (w39 : World) => ∃ (n40 : Int), e38 = Ending.returned (Value.int IntKind.i64 n40) ∧ ∃ (R41 : List Own), ∃ (Φ42 : PW), Stable Φ42 ∧ Ctx W w39 (R41 ++ R37) Φ42
  ∧ ∀ (w43 : World) (R44 : List Own), Ctx W w43 (R41 ++ R44) Φ42 → J (Value.int IntKind.i64 n40) w43) (∀ (w45 : World) (R46 : List Own), Ctx W w45 (R7 ++ R46) I8 → ∃ (s47 : ByteArray),
  w45.cell? (Addr.mk rB rO none) = some (Value.string s47) ∧ (0 ≤ n6 ∧ n6 ≤ (↑s47.size : Int)) ∧ ∀ (w48 : World) (R49 : List Own), Ctx W w48 (R7 ++ R49) I8 → Calls Tryz.prog
  F.errataref01_Back #[Value.string (s47.extract 0 n6.toNat)] w48 fun (e50 : Ending) (w51 : World) => ∃ (n52 : Int), ∃ (c53 : Bool), e50 = Ending.returned (Value.tuple #[Value.int IntKind.i64
  n52, Value.bool c53]) ∧ ∃ (R54 : List Own), ∃ (Φ55 : PW), Stable Φ55 ∧ Ctx W w51 (R54 ++ R49) Φ55 ∧ Br (!c53) (∀ (w56 : World) (R57 : List Own), Ctx W w56 (R54 ++ R57) Φ55 → Calls Tryz.prog
  F.errataref01_Reader_fail #[Value.pointer (some (Addr.mk rB rO none))] w56 fun (e58 : Ending) (w59 : World) => ∃ (n60 : Int), e58 = Ending.returned (Value.int IntKind.i64 n60) ∧ ∃ (R61 :
  List Own), ∃ (Φ62 : PW), Stable Φ62 ∧ Ctx W w59 (R61 ++ R57) Φ62 ∧ ∀ (w63 : World) (R64 : List Own), Ctx W w63 (R61 ++ R64) Φ62 → J (Value.int IntKind.i64 n60) w63) (∀ (w65 : World) (R66 :
  List Own), Ctx W w65 (R54 ++ R66) Φ55 → ∃ (s67 : ByteArray), w65.cell? (Addr.mk rB rO none) = some (Value.string s67) ∧ I64 (n6 + 1) ∧ (0 ≤ n6 + 1 ∧ n6 + 1 ≤ (↑s67.size : Int) ∧ s67.size ≤
  s67.size) ∧ ∀ (w68 : World) (R69 : List Own), Ctx W w68 (R54 ++ R69) Φ55 → CanWrite w68 rB rO 1 ∧ ∀ (w70 : World), w70 = w68.setCell (Addr.mk rB rO none) (Value.string (s67.extract (n6 +
  1).toNat s67.size)) → ∃ (R71 : List Own), ∃ (Φ72 : PW), Stable Φ72 ∧ Ctx W w70 (R71 ++ R69) Φ72 ∧ ∀ (w73 : World) (R74 : List Own), Ctx W w73 (R71 ++ R74) Φ72 → J (Value.int IntKind.i64
  n52) w73))))

theorem Berrataref01_Reader_ahead_run (rB rO : Nat) (endx : Int) {W w : World} {R : List Own} {Φ : PW} [Stable Φ] {J : Value → World → Prop} (c : Ctx W w R Φ) (h : Berrataref01_Reader_ahead rB rO endx W R Φ J) : Calls Tryz.prog F.errataref01_Reader_ahead #[.pointer (some ⟨rB, rO, none⟩), .int .u8 endx] w fun e w' => ∃ v, e = .returned v ∧ J v w' :=
  vcFS_sound (H := { keep := some [0, 1, 4, 5, 6, 7, 28, 37, 47, 61], loops := [(2, [(5, .one (.int .i64))], [])] }) (by rw [show vcFS Tryz.prog W { keep := some [0, 1, 4, 5, 6, 7, 28, 37, 47, 61], loops := [(2, [(5, .one (.int .i64))], [])] } F.errataref01_Reader_ahead #[.pointer (some ⟨rB, rO, none⟩), .int .u8 endx] R Φ J = Berrataref01_Reader_ahead rB rO endx W R Φ J by kernel_rfl]; exact h) c

/-- (*errataref01.Reader).number -/
def Berrataref01_Reader_number (rB rO : Nat) (endx : Int) (W : World) (R : List Own) (Φ : PW) (J : Value → World → Prop) : Prop :=
  ∀ (w0 : World) (R1 : List Own), Ctx W w0 (R ++ R1) Φ → Calls Tryz.prog F.errataref01_Reader_ahead #[Value.pointer (some (Addr.mk rB rO none)), Value.int IntKind.u8 endx] w0 fun (e2 :
  Ending) (w3 : World) => ∃ (n4 : Int), e2 = Ending.returned (Value.int IntKind.i64 n4) ∧ ∃ (R5 : List Own), ∃ (Φ6 : PW), Stable Φ6 ∧ Ctx W w3 (R5 ++ R1) Φ6 ∧ Br (decide (n4 < 0)) (∀ (w7 :
  World) (R8 : List Own), Ctx W w7 (R5 ++ R8) Φ6 → Calls Tryz.prog F.errataref01_Reader_fail #[Value.pointer (some (Addr.mk rB rO none))] w7 fun (e9 : Ending) (w10 : World) => ∃ (n11 : Int),
  e9 = Ending.returned (Value.int IntKind.i64 n11) ∧ ∃ (R12 : List Own), ∃ (Φ13 : PW), Stable Φ13 ∧ Ctx W w10 (R12 ++ R8) Φ13 ∧ ∀ (w14 : World) (R15 : List Own), Ctx W w14 (R12 ++ R15) Φ13 →
  J (Value.int IntKind.i64 n11) w14) (∀ (w16 : World) (R17 : List Own), Ctx W w16 (R5 ++ R17) Φ6 → J (Value.int IntKind.i64 n4) w16)

theorem Berrataref01_Reader_number_run (rB rO : Nat) (endx : Int) {W w : World} {R : List Own} {Φ : PW} [Stable Φ] {J : Value → World → Prop} (c : Ctx W w R Φ) (h : Berrataref01_Reader_number rB rO endx W R Φ J) : Calls Tryz.prog F.errataref01_Reader_number #[.pointer (some ⟨rB, rO, none⟩), .int .u8 endx] w fun e w' => ∃ v, e = .returned v ∧ J v w' :=
  vcFS_sound (H := { keep := some [0, 1, 4, 5, 10] }) (by rw [show vcFS Tryz.prog W { keep := some [0, 1, 4, 5, 10] } F.errataref01_Reader_number #[.pointer (some ⟨rB, rO, none⟩), .int .u8 endx] R Φ J = Berrataref01_Reader_number rB rO endx W R Φ J by kernel_rfl]; exact h) c

/-- (*errataref01.Reader).fail -/
def Berrataref01_Reader_fail (rB rO : Nat) (W : World) (R : List Own) (Φ : PW) (J : Value → World → Prop) : Prop :=
  ∀ (w0 : World) (R1 : List Own), Ctx W w0 (R ++ R1) Φ → CanWrite w0 rB rO 1 ∧ ∀ (w2 : World), w2 = w0.setCell (Addr.mk rB rO none) (Value.string (ByteArray.mk #[])) → ∃ (R3 : List Own), ∃
  (Φ4 : PW), Stable Φ4 ∧ Ctx W w2 (R3 ++ R1) Φ4 ∧ ∀ (w5 : World) (R6 : List Own), Ctx W w5 (R3 ++ R6) Φ4 → CanWrite w5 rB (rO + 1) 1 ∧ ∀ (w7 : World), w7 = w5.setCell (Addr.mk rB (rO + 1)
  none) (Value.bool true) → ∃ (R8 : List Own), ∃ (Φ9 : PW), Stable Φ9 ∧ Ctx W w7 (R8 ++ R6) Φ9 ∧ ∀ (w10 : World) (R11 : List Own), Ctx W w10 (R8 ++ R11) Φ9 → J (Value.int IntKind.i64 0) w10

theorem Berrataref01_Reader_fail_run (rB rO : Nat) {W w : World} {R : List Own} {Φ : PW} [Stable Φ] {J : Value → World → Prop} (c : Ctx W w R Φ) (h : Berrataref01_Reader_fail rB rO W R Φ J) : Calls Tryz.prog F.errataref01_Reader_fail #[.pointer (some ⟨rB, rO, none⟩)] w fun e w' => ∃ v, e = .returned v ∧ J v w' :=
  vcFS_sound (H := { keep := some [0, 2] }) (by rw [show vcFS Tryz.prog W { keep := some [0, 2] } F.errataref01_Reader_fail #[.pointer (some ⟨rB, rO, none⟩)] R Φ J = Berrataref01_Reader_fail rB rO W R Φ J by kernel_rfl]; exact h) c

/-- (*errataref01.Reader).close -/
def Berrataref01_Reader_close (rB rO : Nat) (endx : Int) (W : World) (R : List Own) (Φ : PW) (J : Value → World → Prop) : Prop :=
  ∀ (w0 : World) (R1 : List Own), Ctx W w0 (R ++ R1) Φ → ∃ (s2 : ByteArray), w0.cell? (Addr.mk rB rO none) = some (Value.string s2) ∧ Br (decide ((↑s2.size : Int) = 0)) (∀ (w3 : World) (R4 :
  List Own), Ctx W w3 (R ++ R4) Φ → Calls Tryz.prog F.errataref01_Reader_fail #[Value.pointer (some (Addr.mk rB rO none))] w3 fun (e5 : Ending) (w6 : World) => ∃ (n7 : Int), e5 =
  Ending.returned (Value.int IntKind.i64 n7) ∧ ∃ (R8 : List Own), ∃ (Φ9 : PW), Stable Φ9 ∧ Ctx W w6 (R8 ++ R4) Φ9 ∧ ∀ (w10 : World) (R11 : List Own), Ctx W w10 (R8 ++ R11) Φ9 → J (Value.bool
  false) w10) (∀ (w12 : World) (R13 : List Own), Ctx W w12 (R ++ R13) Φ → ∃ (s14 : ByteArray), w12.cell? (Addr.mk rB rO none) = some (Value.string s14) ∧ ∃ (u15 : UInt8), ((0 : Int) ≤ 0 ∧
  s14.data.toList.get?Internal 0 = some u15) ∧ Br (decide ((↑u15.toNat : Int) ≠ endx)) (∀ (w16 : World) (R17 : List Own), Ctx W w16 (R ++ R17) Φ → Calls Tryz.prog F.errataref01_Reader_fail
  #[Value.pointer (some (Addr.mk rB rO none))] w16 fun (e18 : Ending) (w19 : World) => ∃ (n20 : Int), e18 = Ending.returned (Value.int IntKind.i64 n20) ∧ ∃ (R21 : List Own), ∃ (Φ22 : PW),
  Stable Φ22 ∧ Ctx W w19 (R21 ++ R17) Φ22 ∧ ∀ (w23 : World) (R24 : List Own), Ctx W w23 (R21 ++ R24) Φ22 → J (Value.bool false) w23) (∀ (w25 : World) (R26 : List Own), Ctx W w25 (R ++ R26) Φ
  → ∃ (s27 : ByteArray), w25.cell? (Addr.mk rB rO none) = some (Value.string s27) ∧ ((0 : Int) ≤ 1 ∧ 1 ≤ (↑s27.size : Int) ∧ s27.size ≤ s27.size) ∧ ∀ (w28 : World) (R29 : List Own), Ctx W w28
  (R ++ R29) Φ → CanWrite w28 rB rO 1 ∧ ∀ (w30 : World), w30 = w28.setCell (Addr.mk rB rO none) (Value.string (s27.extract 1 s27.size)) → ∃ (R31 : List Own), ∃ (Φ32 : PW), Stable Φ32 ∧ Ctx W
  w30 (R31 ++ R29) Φ32 ∧ ∀ (w33 : World) (R34 : List Own), Ctx W w33 (R31 ++ R34) Φ32 → J (Value.bool true) w33))

theorem Berrataref01_Reader_close_run (rB rO : Nat) (endx : Int) {W w : World} {R : List Own} {Φ : PW} [Stable Φ] {J : Value → World → Prop} (c : Ctx W w R Φ) (h : Berrataref01_Reader_close rB rO endx W R Φ J) : Calls Tryz.prog F.errataref01_Reader_close #[.pointer (some ⟨rB, rO, none⟩), .int .u8 endx] w fun e w' => ∃ v, e = .returned v ∧ J v w' :=
  vcFS_sound (H := { keep := some [0, 1, 4, 10, 19] }) (by rw [show vcFS Tryz.prog W { keep := some [0, 1, 4, 10, 19] } F.errataref01_Reader_close #[.pointer (some ⟨rB, rO, none⟩), .int .u8 endx] R Φ J = Berrataref01_Reader_close rB rO endx W R Φ J by kernel_rfl]; exact h) c

/-- errataref01.digits -/
def Berrataref01_digits (n : Int) (W : World) (R : List Own) (Φ : PW) (J : Value → World → Prop) : Prop :=
  ((10 : Int) = 0 → False) ∧ I64 (48 - n.tmod 10) ∧ ∀ (k0 : Nat) (w1 : World) (R2 : List Own), Ctx W w1 (Own.blk k0 [Value.int IntKind.u8 (IntKind.u8.wrap (48 - n.tmod 10))] 5 :: R ++ R2) Φ →
  ∃ (s3 : ByteArray), ∃ (w4 : World), Sem.run Tryz.prog (convert 87 9 (Value.slice (some (Addr.mk k0 0 none)) 1 1)) w1 = Result.ok (Value.string s3) w4 ∧ ∃ (R5 : List Own), ∃ (Φ6 : PW),
  Stable Φ6 ∧ Ctx W w4 (R5 ++ R2) Φ6 ∧ Br (decide (-10 < n)) (∀ (w7 : World) (R8 : List Own), Ctx W w7 (R5 ++ R8) Φ6 → J (Value.string s3) w7) (((10 : Int) = 0 → False) ∧ I64 (n.tdiv 10) ∧ ∀
  (w9 : World) (R10 : List Own), Ctx W w9 (R5 ++ R10) Φ6 → Calls Tryz.prog F.errataref01_digits #[Value.int IntKind.i64 (n.tdiv 10)] w9 fun (e11 : Ending) (w12 : World) => ∃ (s13 :
  ByteArray), e11 = Ending.returned (Value.string s13) ∧ ∃ (R14 : List Own), ∃ (Φ15 : PW), Stable Φ15 ∧ Ctx W w12 (R14 ++ R10) Φ15 ∧ (s13.size + s3.size).le 9223372036854775807 ∧ ∀ (w16 :
  World) (R17 : List Own), Ctx W w16 (R14 ++ R17) Φ15 → J (Value.string (s13 ++ s3)) w16)

theorem Berrataref01_digits_run (n : Int) {W w : World} {R : List Own} {Φ : PW} [Stable Φ] {J : Value → World → Prop} (c : Ctx W w R Φ) (h : Berrataref01_digits n W R Φ J) : Calls Tryz.prog F.errataref01_digits #[.int .i64 n] w fun e w' => ∃ v, e = .returned v ∧ J v w' :=
  vcFS_sound (H := { keep := some [0, 2, 3, 11] }) (by rw [show vcFS Tryz.prog W { keep := some [0, 2, 3, 11] } F.errataref01_digits #[.int .i64 n] R Φ J = Berrataref01_digits n W R Φ J by kernel_rfl]; exact h) c

end Go.Proofs.YtebnciehcnedjaaGreatDoor
end

/-
  The walks of strings.Builder, of the decimal form of ints, and of the encodings of ints and texts.
-/
section
set_option linter.unusedVariables false
set_option linter.unusedSimpArgs false
namespace Go.Proofs.YtebnciehcnedjaaGreatDoor
open Go.Vc


abbrev BdT (b : Nat) (l : List UInt8) (R : List Own) : Prop := Bd 89 5 b l R

theorem bd_info : ∃ j, Tryz.prog.info? 89 = some j ∧ j.size = 2 := by
  have h : (Tryz.prog.info? 89).map (·.size) = some 2 := by kernel_rfl
  exact Option.map_eq_some_iff.1 h

set_option maxHeartbeats 1000000 in
set_option maxRecDepth 100000 in
theorem copyCheck_used (b : Nat) (w : World) (h0 : w.cell? ⟨b, 0, none⟩ = some (.pointer (some ⟨b, 0, none⟩))) :
    Calls Tryz.prog 86 #[.pointer (some ⟨b, 0, none⟩)] w fun e w' => e = .returned (.tuple #[]) ∧ w' = w := by
  obtain ⟨j, hj, _⟩ := bd_info
  go_enter Tryz.func86, Tryz.ntmps86
  go_wp2
  rw [Lib.run_neq_ptr_same w _ Tryz.underlying86 hj]
  go_wp2
  go_end0
  exact ⟨rfl, rfl⟩

set_option maxHeartbeats 1000000 in
set_option maxRecDepth 100000 in
theorem copyCheck_fresh (b : Nat) (w : World) (h0 : w.cell? ⟨b, 0, none⟩ = some (.pointer none)) (hsh : w.shape? b = some (89, 2)) (hfz : w.frozen? ⟨b, 0, none⟩ = false) :
    Calls Tryz.prog 86 #[.pointer (some ⟨b, 0, none⟩)] w fun e w' => e = .returned (.tuple #[]) ∧ w' = w.setCell ⟨b, 0, none⟩ (.pointer (some ⟨b, 0, none⟩)) := by
  obtain ⟨j, hj, hjs⟩ := bd_info
  go_enter Tryz.func86, Tryz.ntmps86
  go_wp2
  rw [Lib.run_to_unsafe w ⟨b, 0, none⟩ Tryz.underlying86 Tryz.underlying134 hj (by rw [hjs]; decide) hsh (Nat.zero_lt_succ 1)]
  simp only [Result.andThen]
  rw [Oper.upon_value]
  go_wp2
  rw [run_callFunc_extern Tryz.func112 (by kernel_rfl) (by kernel_rfl) (by kernel_rfl) (e := Extern.AbiNoEscape.same) (by kernel_rfl)]
  rw [Lib.run_noEscape]
  simp only [Result.andThen]
  rw [Oper.upon_value]
  go_wp2
  rw [Lib.run_from_unsafe w ⟨b, 0, none⟩ Tryz.underlying134 Tryz.underlying86 hj hsh (by kernel_rfl)]
  simp only [Result.andThen]
  rw [Oper.upon_value]
  go_wp2
  go_end0
  exact ⟨rfl, rfl⟩

theorem copyCheck_use {W w : World} {S : List Own} {Φ : PW} [Stable Φ] {b : Nat} {pa v : Value} (hp : pa = .pointer none ∨ pa = .pointer (some ⟨b, 0, none⟩)) (c : Ctx W w (.blk b [pa, v] 89 :: S) Φ) {K : Ending → World → Prop}
    (hk : ∀ w', Ctx W w' (.blk b [.pointer (some ⟨b, 0, none⟩), v] 89 :: S) Φ → K (.returned (.tuple #[])) w') : Calls Tryz.prog F.strings_Builder_copyCheck #[.pointer (some ⟨b, 0, none⟩)] w K := by
  have hb : w.heap[b]? = some (.cells #[pa, v] 89 (0, 0)) := c.blk 0 rfl
  rcases hp with rfl | rfl
  · exact (copyCheck_fresh b w (c.get 0 rfl rfl) (by simp [World.shape?, hb]) (by simp [World.frozen?, hb])).mono fun e w' ⟨he, hw⟩ => by
      subst he
      exact hk w' (c.put 0 hw rfl)
  · exact (copyCheck_used b w (c.get 0 rfl rfl)).mono fun e w' ⟨he, hw⟩ => by
      subst he; subst hw
      exact hk w' c

theorem byte_info : ∃ i, Tryz.prog.info? 5 = some i ∧ i.zero = some (.int .u8 0) ∧ i.size = 1 ∧ i.bytes = 1 := by
  have h : (Tryz.prog.info? 5).map (fun i => (i.zero, i.size, i.bytes)) = some (some (.int .u8 0), 1, 1) := by kernel_rfl
  obtain ⟨i, hi, he⟩ := Option.map_eq_some_iff.1 h
  simp only [Prod.mk.injEq] at he
  exact ⟨i, hi, he⟩

theorem strCells_bytes (s : ByteArray) : Lib.strCells s = Lib.byteCells s.data.toList := rfl

theorem WriteString_use {W w : World} {S R : List Own} {Φ : PW} [Stable Φ] {b : Nat} {l : List UInt8} (s : ByteArray) (h : BdT b l R) (c : Ctx W w (R ++ S) Φ) (hlen : l.length + s.size ≤ 100000000000) {K : Ending → World → Prop}
    (hk : ∀ R' w', BdT b (l ++ s.data.toList) R' → Ctx W w' (R' ++ S) Φ → K (.returned (.tuple #[.int .i64 s.size, .nilIface])) w') : Calls Tryz.prog F.strings_Builder_WriteString #[.pointer (some ⟨b, 0, none⟩), .string s] w K := by
  obtain ⟨pa, p, cap, hpa, rfl⟩ := h
  obtain ⟨i, hi, hz, hsz, hby⟩ := byte_info
  refine (Bstrings_Builder_WriteString_run b 0 s (J := fun u w' => K (.returned u) w') c ?_).mono fun e w' ⟨v, he, hj⟩ => by rw [he]; exact hj
  refine fun w G c => copyCheck_use hpa c fun w c => ⟨rfl, [.blk b [.pointer (some ⟨b, 0, none⟩), .slice p l.length cap] 89, .buf p l.length cap (Lib.byteCells l) 5 1] ++ S, Φ, inferInstance, c, fun w G c => ⟨p, l.length, cap, c.get 0 rfl rfl, fun w G c => ?_⟩⟩
  obtain ⟨p', cap', w', hrun, c'⟩ := Ctx.appStr (P := Tryz.prog) (t := 87) (u := 9) (ty := 87) (kb := #[false, false]) (c.swap) Tryz.underlying87 Tryz.underlying9 hi hz hsz hby s (by omega) (by unfold maxLen; omega)
  refine ⟨p', _, cap', w', hrun, [.blk b [.pointer (some ⟨b, 0, none⟩), .slice p l.length cap] 89, .buf p' (l.length + s.size) cap' (Lib.byteCells l ++ Lib.strCells s) 5 1] ++ S, Φ, inferInstance, c'.swap, fun w G c => ⟨c.can 0 rfl (by simp), fun w' hw' => ?_⟩⟩
  refine ⟨[.blk b [.pointer (some ⟨b, 0, none⟩), .slice p' (l.length + s.size) cap'] 89, .buf p' (l.length + s.size) cap' (Lib.byteCells l ++ Lib.strCells s) 5 1] ++ S, Φ, inferInstance, c.put 0 hw' rfl, fun w G c => hk [.blk b [.pointer (some ⟨b, 0, none⟩), .slice p' (l.length + s.size) cap'] 89, .buf p' (l.length + s.size) cap' (Lib.byteCells l ++ Lib.strCells s) 5 1] w ⟨_, p', cap', .inr rfl, ?_⟩ c.left⟩
  have hl : (l ++ s.data.toList).length = l.length + s.size := by rw [List.length_append, Array.length_toList]; rfl
  rw [hl, strCells_bytes, Lib.byteCells_append]

theorem String_use {W w : World} {S R : List Own} {Φ : PW} [Stable Φ] {b : Nat} {l : List UInt8} (h : BdT b l R) (c : Ctx W w (R ++ S) Φ) {K : Ending → World → Prop}
    (hk : ∀ w', Ctx W w' S Φ → K (.returned (.string ⟨l.toArray⟩)) w') : Calls Tryz.prog F.strings_Builder_String #[.pointer (some ⟨b, 0, none⟩)] w K :=
  Bd.string Tryz.lays169 Tryz.Builder_Extra_169 h c hk

end Go.Proofs.YtebnciehcnedjaaGreatDoor
end

/-
  The encodings of ints, texts, values and rows: in plain Lean, and walked.
-/
section
set_option linter.unusedVariables false
set_option linter.unusedSimpArgs false
namespace Go.Vc
end Go.Vc
namespace Go.Proofs.YtebnciehcnedjaaGreatDoor
open Go.Vc

/-! ### in plain Lean -/
def numB (n : Int) : ByteArray := ⟨(Lib.itoa n).toArray⟩
def intB (n : Int) : ByteArray := numB n ++ ByteArray.mk #[59]
def natB (n : Int) : ByteArray := if n < 0 then ByteArray.mk #[] else intB n
def textB (s : ByteArray) : ByteArray := numB s.size ++ ByteArray.mk #[58] ++ s ++ ByteArray.mk #[44]
theorem size_app (a b : ByteArray) : (a ++ b).size = a.size + b.size := ByteArray.size_append
theorem size_list (l : List UInt8) : (ByteArray.mk l.toArray).size = l.length := by simp [ByteArray.size]
theorem list_size (a : ByteArray) : a.data.toList.length = a.size := by rw [Array.length_toList]; rfl

theorem nDigits_le : ∀ (k u : Nat), u < 10 ^ k → 0 < k → Lib.nDigits u ≤ k
  | 0, u, _, h => by omega
  | k + 1, u, h, _ => by
    by_cases h1 : u < 10
    · rw [Lib.nDigits_small h1]; omega
    · rw [Lib.nDigits_big h1]
      have hk : 0 < k := by
        rcases Nat.eq_zero_or_pos k with rfl | h2
        · simp at h; omega
        · exact h2
      have := nDigits_le k (u / 10) (by rw [Nat.pow_succ] at h; omega) hk
      omega

theorem itoa_len {n : Int} (h : I64 n) : 1 ≤ (Lib.itoa n).length ∧ (Lib.itoa n).length ≤ 20 := by
  unfold I64 at h
  unfold Lib.itoa
  split
  · have h1 := nDigits_le 19 n.natAbs (by omega) (by decide)
    have h2 := Lib.nDigits_pos n.natAbs
    rw [List.length_cons, Lib.decDigits_length]; omega
  · have h1 := nDigits_le 19 n.toNat (by omega) (by decide)
    have h2 := Lib.nDigits_pos n.toNat
    rw [Lib.decDigits_length]; omega

theorem numB_size {n : Int} (h : I64 n) : 1 ≤ (numB n).size ∧ (numB n).size ≤ 20 := by
  unfold numB; rw [size_list]; exact itoa_len h
theorem intB_size {n : Int} (h : I64 n) : 2 ≤ (intB n).size ∧ (intB n).size ≤ 21 := by
  have := numB_size h
  have e : (ByteArray.mk #[59]).size = 1 := rfl
  unfold intB; rw [size_app, e]; omega
theorem natB_size {n : Int} (h : I64 n) : (natB n).size ≤ 21 := by
  unfold natB
  split
  · exact Nat.zero_le _
  · exact (intB_size h).2
theorem textB_size {s : ByteArray} (h : s.size ≤ 9223372036854775807) : (textB s).size ≤ s.size + 22 ∧ s.size + 3 ≤ (textB s).size := by
  have := numB_size (n := s.size) (by unfold I64; omega)
  have e : (ByteArray.mk #[58]).size = 1 := rfl
  have e2 : (ByteArray.mk #[44]).size = 1 := rfl
  unfold textB; rw [size_app, size_app, size_app, e, e2]; omega
/-! ### walked -/
abbrev tabN : String := ((Rows.storeBoundsRow.laid.map Prod.fst).drop 2).headD default
/-- the table of the powers of ten lies there -/
abbrev TabI : PW := Tab Tryz.prog tabN .u64 Lib.pow10Tab

theorem Itoa_in {Φ : PW} [Stable Φ] (hΦ : ∀ M w, Φ M w → TabI M w) (n : Int) (h : I64 n) : GivesIn Φ Tryz.prog F.strconv_Itoa #[.int .i64 n] (.string (numB n)) :=
  itoa_in (name := tabN) (fun n h0 h1 w ht => Any.strconv_Itoa Tryz.laysM171 n h0 h1 w ht) hΦ n h

theorem Itoa_small (i : Nat) (hi : i < 100) : Gives Tryz.prog F.strconv_Itoa #[.int .i64 i] (.string (numB i)) :=
  Quiet.gives ⟨fun w => by
    have h := Any.strconv_Itoa_small { Tryz.lays171 with } i hi w
    rw [← Lib.itoa_nonneg] at h
    exact h⟩

/-- ints that the library writes: at these places, or small ones -/
def Dec (Φ : PW) (n : Int) : Prop := (∀ M w, Φ M w → TabI M w) ∧ I64 n ∨ ∃ i : Nat, i < 100 ∧ n = i

theorem Itoa_dec {Φ : PW} [Stable Φ] {n : Int} (h : Dec Φ n) : GivesIn Φ Tryz.prog F.strconv_Itoa #[.int .i64 n] (.string (numB n)) := by
  rcases h with ⟨h1, h2⟩ | ⟨i, hi, rfl⟩
  · exact Itoa_in h1 n h2
  · exact (Itoa_small i hi).in
theorem Dec.i64 {Φ : PW} {n : Int} (h : Dec Φ n) : I64 n := by
  rcases h with ⟨_, h2⟩ | ⟨i, hi, rfl⟩
  · exact h2
  · unfold I64; omega

theorem Int_in {Φ : PW} [Stable Φ] {n : Int} (h : Dec Φ n) : GivesIn Φ Tryz.prog F.wire_Int #[.int .i64 n] (.string (intB n)) := by
  refine gives_in (Bwire_Int_run n) fun W R => ?_
  have := numB_size h.i64
  exact fun w G cx => (Itoa_dec h).use cx fun w cx => ⟨_, rfl, R, Φ, inferInstance, cx, by show (numB n).size + 1 ≤ _; omega, fun w G cx => ⟨rfl, cx.left⟩⟩

theorem Num_in {Φ : PW} [Stable Φ] {n : Int} (h : Dec Φ n) : GivesIn Φ Tryz.prog F.wire_Num #[.int .i64 n] (.string (natB n)) := by
  refine gives_in (Bwire_Num_run n) fun W R => Br.intro (fun hn => fun w G cx => ⟨?_, cx.left⟩) (fun hn => fun w G cx => (Int_in h).use cx fun w cx => ⟨_, rfl, R, Φ, inferInstance, cx, fun w G cx => ⟨?_, cx.left⟩⟩)
  · unfold natB; rw [if_pos (of_decide_eq_true hn)]
  · unfold natB; rw [if_neg (of_decide_eq_false hn)]

theorem Text_in {Φ : PW} [Stable Φ] {s : ByteArray} (h : Dec Φ s.size) (hs : s.size ≤ 1000000000000) : GivesIn Φ Tryz.prog F.wire_Text #[.string s] (.string (textB s)) := by
  refine gives_in (Bwire_Text_run s) fun W R => ?_
  have h1 := numB_size h.i64
  have e : (ByteArray.mk #[58]).size = 1 := rfl
  have e2 : (ByteArray.mk #[44]).size = 1 := rfl
  exact fun w G cx => (Itoa_dec h).use cx fun w cx => ⟨_, rfl, R, Φ, inferInstance, cx, by show (numB s.size).size + 1 ≤ _; omega, by show (numB s.size ++ ByteArray.mk #[58]).size + s.size ≤ _; rw [size_app, e]; omega, by show (numB s.size ++ ByteArray.mk #[58] ++ s).size + 1 ≤ _; rw [size_app, size_app, e]; omega, fun w G cx => ⟨rfl, cx.left⟩⟩

end Go.Proofs.YtebnciehcnedjaaGreatDoor
end

/-
  The reader of encodings: in plain Lean, and walked.
-/
section
set_option linter.unusedVariables false
set_option linter.unusedSimpArgs false
namespace Go.Vc
/-- a variable that holds an error, or none, in a block that nobody writes -/
def ErrAt (g : Nat) : PW := fun M w => g ∉ M ∧ ∃ ev, w.cell? ⟨g, 0, none⟩ = some ev ∧ (ev = .nilIface ∨ ∃ te pe, ev = .iface te pe)
instance instStableErrAt (g : Nat) : Stable (ErrAt g) := ⟨fun {M M' w w'} hs ⟨h1, ev, h2, h3⟩ => by
  have hlt : g < w.heap.size := by
    rcases Nat.lt_or_ge g w.heap.size with h' | h'
    · exact h'
    · simp [World.cell?, Array.getElem?_eq_none h'] at h2
  refine ⟨fun hm => ?_, ev, hs.chg.cell h2 h1, h3⟩
  rcases hs.sub g hm with h | h
  · exact h1 h
  · omega⟩
theorem chg_below {w w' : World} (h : Go.RowKit.Below w.heap.size w w') : Chg [] w w' := ⟨h.os, h.tape, h.output, h.size, fun k hk _ => h.block k hk⟩
theorem eqGuard_iface {P : Program} {op : BinOp} {t : TypeId} {ox oy : Operand} {u : TypeId} {v : Value} (w : World) : (eqGuard op t ox oy (.iface u v) .nilIface).run P w = .ok () w := by
  unfold eqGuard
  cases op <;> rfl
theorem eqGuard_nil {P : Program} {op : BinOp} {t : TypeId} {k : Nat} {v : Value} (w : World) : (eqGuard op t (.tmp k) (.const v) .nilIface .nilIface).run P w = .ok () w := by
  unfold eqGuard
  cases op <;> rfl
theorem neq_nil {P : Program} {op : BinOp} {t t' : TypeId} {k : Nat} {v : Value} (ht : P.isIface t' = true) (w : World) : ((eqGuard op t (.tmp k) (.const v) .nilIface .nilIface) >>= fun _ => binOp .neq t' .nilIface .nilIface).run P w = .ok (.bool false) w := by
  rw [Sem.run_bind, eqGuard_nil]
  exact Go.run_neq_nil_nil_at w t' ht
theorem neq_err {P : Program} {op : BinOp} {t t' : TypeId} {ox oy : Operand} {u : TypeId} {v : Value} (ht : P.isIface t' = true) (w : World) : ((eqGuard op t ox oy (.iface u v) .nilIface) >>= fun _ => binOp .neq t' (.iface u v) .nilIface).run P w = .ok (.bool true) w := by
  rw [Sem.run_bind, eqGuard_iface]
  exact Go.run_neq_iface_nil w t' ht u v
end Go.Vc
namespace Go.Proofs.YtebnciehcnedjaaGreatDoor
open Go.Vc


/-- what the reading of numbers looks at -/
def NumI : PW := fun M w => TabI M w ∧ ErrAt 1 M w ∧ ErrAt 2 M w
instance instStableNumI : Stable NumI := instStableAnd TabI (fun M w => ErrAt 1 M w ∧ ErrAt 2 M w)

/-! ### in plain Lean -/
def bs (l : List UInt8) : ByteArray := ⟨l.toArray⟩
theorem bs_list (l : List UInt8) : (bs l).data.toList = l := rfl
theorem bs_size (l : List UInt8) : (bs l).size = l.length := size_list l
theorem bs_ext (l : List UInt8) (a b : Nat) : (bs l).extract a b = bs ((l.drop a).take (b - a)) := by
  apply ByteArray.ext
  apply Array.toList_inj.1
  rw [ByteArray.data_extract, Array.toList_extract]
  rfl
theorem bs_inj {a b : List UInt8} : bs a = bs b ↔ a = b := ⟨fun h => by have := congrArg (fun x => x.data.toList) h; exact this, fun h => by rw [h]⟩
theorem bs_of (s : ByteArray) : bs s.data.toList = s := rfl

/-- what is left, and whether it has failed -/
abbrev RdS := List UInt8 × Bool
def numP (e : UInt8) (least : Int) (l : List UInt8) : Option (Int × List UInt8) :=
  let i := Lib.indexByte (l.take 21) e
  if i < 0 then none else match Lib.atoiAll (l.take i.toNat) with
    | .ok n => if Lib.itoa n = l.take i.toNat ∧ least ≤ n then some (n, l.drop (i.toNat + 1)) else none
    | _ => none
def stepN (e : UInt8) (least : Int) (st : RdS) : Int × RdS := match numP e least st.1 with
  | some (n, r) => (n, (r, st.2))
  | none => (0, ([], true))
def stepC (c : UInt8) (st : RdS) : RdS := match st.1 with
  | [] => ([], true)
  | x :: r => if x = c then (r, st.2) else ([], true)
def stepT (st : RdS) : ByteArray × RdS :=
  let a := stepN 58 0 st
  if (a.2.1.length : Int) < a.1 then (ByteArray.mk #[], ([], true)) else
    let c := stepC 44 (a.2.1.drop a.1.toNat, a.2.2)
    (if c.2 then ByteArray.mk #[] else bs (a.2.1.take a.1.toNat), c)

theorem at_of_split {l r : List UInt8} {i : Nat} {e : UInt8} (h : l.take i ++ e :: r = l) (hi : i < l.length) : l[i]? = some e := by
  have hl : (l.take i).length = i := by rw [List.length_take]; omega
  rw [← h, List.getElem?_append_right (by omega), hl, Nat.sub_self]
  rfl
theorem index_neg : ∀ (l : List UInt8) (c : UInt8), -1 ≤ Lib.indexByte l c ∧ (Lib.indexByte l c = -1 ∨ (0 ≤ Lib.indexByte l c ∧ Lib.indexByte l c < l.length ∧ l.take (Lib.indexByte l c).toNat ++ c :: l.drop ((Lib.indexByte l c).toNat + 1) = l ∧ c ∉ l.take (Lib.indexByte l c).toNat))
  | [], c => by simp [Lib.indexByte]
  | b :: l, c => by
    have ih := index_neg l c
    unfold Lib.indexByte
    by_cases hb : (b == c) = true
    · rw [if_pos hb]
      have : b = c := by simpa using hb
      subst this
      refine ⟨by omega, .inr ⟨by omega, by simp, by simp, by simp⟩⟩
    · rw [if_neg hb]
      by_cases h1 : (Lib.indexByte l c == -1) = true
      · rw [if_pos h1]; exact ⟨by omega, .inl rfl⟩
      · rw [if_neg h1]
        have h1 : Lib.indexByte l c ≠ -1 := by simpa using h1
        obtain ⟨h2, h3⟩ := ih
        rcases h3 with h3 | ⟨h3, h4, h5, h6⟩
        · exact absurd h3 h1
        · have e : (Lib.indexByte l c + 1).toNat = (Lib.indexByte l c).toNat + 1 := by omega
          refine ⟨by omega, .inr ⟨by omega, by simp; omega, ?_, ?_⟩⟩
          · rw [e, List.take_succ_cons, List.drop_succ_cons, List.cons_append, h5]
          · rw [e, List.take_succ_cons, List.mem_cons, not_or]
            exact ⟨fun e => hb (by simp [e]), h6⟩

theorem index_least {l : List UInt8} {c : UInt8} {a r : List UInt8} (hl : l = a ++ c :: r) (hc : c ∉ a) : Lib.indexByte l c = a.length := by
  subst hl
  induction a with
  | nil => simp [Lib.indexByte]
  | cons b a ih =>
    have hb : b ≠ c := fun e => hc (by simp [e])
    have ih := ih fun h => hc (by simp [h])
    rw [List.cons_append]
    unfold Lib.indexByte
    rw [if_neg (by simpa using hb), if_neg (by rw [ih]; simp), ih]
    simp

/-- digits and the sign -/
theorem digits_chars : ∀ (u : Nat), ∀ c ∈ Lib.decDigits u, 48 ≤ c.toNat ∧ c.toNat ≤ 57 := by
  intro u
  induction u using Nat.strongRecOn with
  | _ u ih =>
    intro c hc
    rw [Lib.decDigits] at hc
    split at hc
    · rename_i h
      rw [List.mem_singleton] at hc
      subst hc
      have : (UInt8.ofNat (48 + u)).toNat = 48 + u := by simp; omega
      omega
    · rename_i h
      rcases List.mem_append.1 hc with hc | hc
      · exact ih (u / 10) (by omega) c hc
      · rw [List.mem_singleton] at hc
        subst hc
        have : (UInt8.ofNat (48 + u % 10)).toNat = 48 + u % 10 := by simp; omega
        omega
theorem itoa_chars {n : Int} {c : UInt8} (h : c ∈ Lib.itoa n) : c.toNat = 45 ∨ 48 ≤ c.toNat ∧ c.toNat ≤ 57 := by
  unfold Lib.itoa at h
  split at h
  · rcases List.mem_cons.1 h with rfl | h
    · left; rfl
    · right; exact digits_chars _ c h
  · right; exact digits_chars _ c h

/-! ### the decimal form, read back -/
def digV (acc : Nat) (l : List UInt8) : Nat := l.foldl (fun a c => a * 10 + (c.toNat - 48)) acc
theorem digV_snoc (acc : Nat) (l : List UInt8) (c : UInt8) : digV acc (l ++ [c]) = digV acc l * 10 + (c.toNat - 48) := by simp [digV]
theorem digV_dec : ∀ u : Nat, digV 0 (Lib.decDigits u) = u := by
  intro u
  induction u using Nat.strongRecOn with
  | _ u ih =>
    rw [Lib.decDigits]
    split
    · rename_i h
      show 0 * 10 + ((UInt8.ofNat (48 + u)).toNat - 48) = u
      have : (UInt8.ofNat (48 + u)).toNat = 48 + u := by simp; omega
      omega
    · rename_i h
      rw [digV_snoc, ih (u / 10) (by omega)]
      have : (UInt8.ofNat (48 + u % 10)).toNat = 48 + u % 10 := by simp; omega
      omega
theorem digV_mono : ∀ (l : List UInt8) (acc : Nat), acc ≤ digV acc l
  | [], acc => Nat.le_refl _
  | c :: l, acc => by
    have := digV_mono l (acc * 10 + (c.toNat - 48))
    show acc ≤ digV (acc * 10 + (c.toNat - 48)) l
    omega
theorem parse_dig : ∀ (l : List UInt8) (acc : Nat), (∀ c ∈ l, 48 ≤ c.toNat ∧ c.toNat ≤ 57) → digV acc l < 18446744073709551616 → Lib.parseUint10 acc l = .ok (digV acc l)
  | [], acc, _, _ => rfl
  | c :: l, acc, hc, h => by
    have h0 := hc c (by simp)
    have hm := digV_mono l (acc * 10 + (c.toNat - 48))
    have e : digV acc (c :: l) = digV (acc * 10 + (c.toNat - 48)) l := rfl
    rw [e] at h ⊢
    unfold Lib.parseUint10
    rw [if_pos h0, if_neg (by omega), if_neg (by omega)]
    exact parse_dig l _ (fun d hd => hc d (by simp [hd])) h

theorem dec_ne (u : Nat) : Lib.decDigits u ≠ [] := by
  intro e
  have h1 := Lib.decDigits_length u
  have h2 := Lib.nDigits_pos u
  rw [e] at h1
  simp at h1
  omega
theorem mag_dec {u : Nat} (h : u < 18446744073709551616) : Lib.parseMag (Lib.decDigits u) = .ok u := by
  unfold Lib.parseMag
  rw [if_neg (dec_ne u), parse_dig _ 0 (digits_chars u) (by rw [digV_dec]; exact h), digV_dec]

theorem atoi_itoa {n : Int} (h : I64 n) : Lib.atoiAll (Lib.itoa n) = .ok n := by
  unfold I64 at h
  unfold Lib.itoa
  split
  · rename_i hn
    have hm := mag_dec (u := n.natAbs) (by omega)
    unfold Lib.atoiAll
    simp only
    rw [if_pos (.inr rfl), hm]
    simp only
    have e45 : (45 : UInt8).toNat = 45 := rfl
    rw [if_neg (by intro h; exact h.1 e45), if_neg (by intro h; omega), if_pos e45]
    congr 1
    omega
  · rename_i hn
    have hm := mag_dec (u := n.toNat) (by omega)
    obtain ⟨c, r, hcr⟩ : ∃ c r, Lib.decDigits n.toNat = c :: r := by
      cases hd : Lib.decDigits n.toNat with
      | nil => exact absurd hd (dec_ne _)
      | cons c r => exact ⟨c, r, rfl⟩
    have h0 := digits_chars n.toNat c (by rw [hcr]; simp)
    rw [hcr] at hm ⊢
    unfold Lib.atoiAll
    simp only
    rw [if_neg (by omega), hm]
    simp only
    rw [if_neg (by omega), if_neg (by omega), if_neg (by omega)]
    congr 1
    omega

/-- what a number's reading says -/
theorem numP_iff {e : UInt8} (he : e.toNat = 58 ∨ e.toNat = 59 ∨ e.toNat = 91) {least : Int} {l : List UInt8} {n : Int} {r : List UInt8} : numP e least l = some (n, r) ↔ (I64 n ∧ least ≤ n) ∧ l = Lib.itoa n ++ e :: r := by
  have hne : ∀ n : Int, e ∉ Lib.itoa n := fun n h => by have := itoa_chars h; omega
  constructor
  · intro h
    unfold numP at h
    simp only at h
    split at h
    · cases h
    · rename_i hi
      split at h
      · rename_i m hm
        split at h
        · rename_i hc
          cases h
          have hb := Lib.atoiAll_bounds hm
          obtain ⟨_, h3⟩ := index_neg (l.take 21) e
          rcases h3 with h3 | ⟨h3, h4, h5, h6⟩
          · omega
          · refine ⟨⟨by unfold I64; omega, hc.2⟩, ?_⟩
            rw [hc.1]
            have hlt : (Lib.indexByte (l.take 21) e).toNat < (l.take 21).length := by omega
            have hlt2 : (Lib.indexByte (l.take 21) e).toNat < l.length := by rw [List.length_take] at hlt; omega
            have hg : l[(Lib.indexByte (l.take 21) e).toNat] = e := by
              have h7 : (l.take 21)[(Lib.indexByte (l.take 21) e).toNat]? = some e := at_of_split h5 (by omega)
              rw [List.getElem?_take_of_lt (by rw [List.length_take] at hlt; omega), List.getElem?_eq_getElem hlt2] at h7
              exact Option.some.inj h7
            conv => lhs; rw [← List.take_append_drop (Lib.indexByte (l.take 21) e).toNat l, List.drop_eq_getElem_cons hlt2, hg]
        · cases h
      · cases h
  · rintro ⟨⟨h1, h2⟩, rfl⟩
    have hlen := itoa_len h1
    have ht : (Lib.itoa n ++ e :: r).take 21 = Lib.itoa n ++ e :: r.take (20 - (Lib.itoa n).length) := by
      rw [List.take_append, List.take_of_length_le (by omega)]
      congr 1
      rw [show 21 - (Lib.itoa n).length = (20 - (Lib.itoa n).length) + 1 by omega, List.take_succ_cons]
    have hi := index_least ht (hne n)
    unfold numP
    simp only
    rw [hi, if_neg (by omega), Int.toNat_natCast, List.take_left', atoi_itoa h1]
    · simp only
      rw [if_pos ⟨by simp, h2⟩]
      congr 2
      rw [List.drop_append, List.drop_of_length_le (by omega), List.nil_append, show (Lib.itoa n).length + 1 - (Lib.itoa n).length = 1 by omega]
      rfl
    · rfl

/-! ### walked -/
abbrev rd (b : Nat) (st : RdS) : Own := .blk b [.string (bs st.1), .bool st.2] 107

section
variable {W w : World} {R G S : List Own} {Φ : PW} {b : Nat} {st : RdS}

theorem Open_use [Stable Φ] (l : List UInt8) (c : Ctx W w S Φ) {K : Ending → World → Prop} (hk : ∀ b w', Ctx W w' (rd b (l, false) :: S) Φ → K (.returned (.pointer (some ⟨b, 0, none⟩))) w') :
    Calls Tryz.prog F.wire_Open #[.string (bs l)] w K := by
  refine (Bwire_Open_run (bs l) (J := fun u w' => K (.returned u) w') c ?_).mono fun e w' ⟨v, he, hj⟩ => by rw [he]; exact hj
  exact fun b w G cx => hk b w (Ctx.left (S := rd b (l, false) :: S) cx)

theorem fail_use [Stable Φ] (c : Ctx W w (rd b st :: S) Φ) {K : Ending → World → Prop} (hk : ∀ w', Ctx W w' (rd b ([], true) :: S) Φ → K (.returned (.tuple #[])) w') :
    Calls Tryz.prog F.wire_Reader_fail #[.pointer (some ⟨b, 0, none⟩)] w K := by
  refine (Bwire_Reader_fail_run b 0 (J := fun u w' => K (.returned u) w') c ?_).mono fun e w' ⟨v, he, hj⟩ => by rw [he]; exact hj
  refine fun w G cx => ⟨cx.can 0 rfl (by simp), fun w' hw' => ⟨.blk b [.string (bs []), .bool st.2] 107 :: S, Φ, inferInstance, cx.put 0 hw' rfl, fun w G cx => ⟨cx.can 0 rfl (by simp), fun w' hw' => ⟨rd b ([], true) :: S, Φ, inferInstance, cx.put 0 hw' rfl, fun w G cx => hk w cx.left⟩⟩⟩⟩

theorem fail_to [Stable Φ] (c : Ctx W w (rd b st :: S ++ G) Φ) {K : List Own → PW → Prop} (hk : K (rd b ([], true) :: S) Φ) :
    Calls Tryz.prog F.wire_Reader_fail #[.pointer (some ⟨b, 0, none⟩)] w fun e w' => e = .returned (.tuple #[]) ∧ ∃ R' Φ', Stable Φ' ∧ Ctx W w' (R' ++ G) Φ' ∧ K R' Φ' :=
  fail_use (S := S ++ G) c fun w' c => ⟨rfl, rd b ([], true) :: S, Φ, inferInstance, c, hk⟩

theorem index_g (s : ByteArray) (c : Int) : Gives Tryz.prog F.strings_IndexByte #[.string s, .int .u8 c] (.int .i64 (Lib.indexByte s.data.toList c.toNat.toUInt8)) :=
  Quiet.gives ⟨fun w => Any.strings_IndexByte Tryz.lays137 s c w⟩

theorem atoi_to [Stable Φ] (h1 : ∀ M w, Φ M w → ErrAt 1 M w) (h2 : ∀ M w, Φ M w → ErrAt 2 M w) (s : ByteArray) (hs : s.size ≤ 1000000) (c : Ctx W w (R ++ G) Φ) {K1 : Int → List Own → PW → Prop} {K2 : Int → TypeId → Value → List Own → PW → Prop}
    (k1 : ∀ n, Lib.atoiAll s.data.toList = .ok n → K1 n R Φ) (k2 : ∀ n t v, (∀ m, Lib.atoiAll s.data.toList ≠ .ok m) → K2 n t v R Φ) :
    Calls Tryz.prog F.strconv_Atoi #[.string s] w fun e w' => (∃ n : Int, e = .returned (.tuple #[.int .i64 n, .nilIface]) ∧ ∃ R' Φ', Stable Φ' ∧ Ctx W w' (R' ++ G) Φ' ∧ K1 n R' Φ') ∨
      ∃ (n : Int) (t : TypeId) (v : Value), e = .returned (.tuple #[.int .i64 n, .iface t v]) ∧ ∃ R' Φ', Stable Φ' ∧ Ctx W w' (R' ++ G) Φ' ∧ K2 n t v R' Φ' := by
  obtain ⟨_, ev, hv, hev⟩ := h1 _ _ c.phi
  obtain ⟨_, er, hr, her⟩ := h2 _ _ c.phi
  cases h : Lib.atoiAll s.data.toList
  · rename_i n
    refine (Any.strconv_Atoi_ok Tryz.laysC172 s (by omega) n h w).mono fun e w' ⟨he, hw⟩ => .inl ⟨n, he, R, Φ, inferInstance, ?_, k1 n h⟩
    rcases hw with rfl | ⟨t, rfl⟩
    · exact c
    · exact c.call (chg_below (Lib.bytesWorld_below _ _ _))
  · exact (Any.strconv_Atoi_syntax Tryz.laysC172 s (by omega) h ev w hv hev).mono fun e w' ⟨N, he, _, _, hb⟩ => .inr ⟨_, _, _, he, R, Φ, inferInstance, c.call (chg_below hb), k2 _ _ _ fun m hm => by rw [h] at hm; cases hm⟩
  · exact (Any.strconv_Atoi_range Tryz.laysC172 s (by omega) h er w hr her).mono fun e w' ⟨N, he, _, _, hb⟩ => .inr ⟨_, _, _, he, R, Φ, inferInstance, c.call (chg_below hb), k2 _ _ _ fun m hm => by rw [h] at hm; cases hm⟩

theorem stepN_none {e : UInt8} {least : Int} (h : numP e least st.1 = none) : stepN e least st = (0, ([], true)) := by unfold stepN; rw [h]
theorem stepN_some {e : UInt8} {least n : Int} {r : List UInt8} (h : numP e least st.1 = some (n, r)) : stepN e least st = (n, (r, st.2)) := by unfold stepN; rw [h]

set_option maxHeartbeats 2000000 in
theorem number_use [Stable Φ] (hΦ : ∀ M w, Φ M w → NumI M w) (e : Int) (least : Int) (hl : st.1.length ≤ 1000000000) (c : Ctx W w (rd b st :: S) Φ) {K : Ending → World → Prop}
    (hk : ∀ w', Ctx W w' (rd b (stepN e.toNat.toUInt8 least st).2 :: S) Φ → K (.returned (.int .i64 (stepN e.toNat.toUInt8 least st).1)) w') :
    Calls Tryz.prog F.wire_Reader_number #[.pointer (some ⟨b, 0, none⟩), .int .u8 e, .int .i64 least] w K := by
  refine (Bwire_Reader_number_run b 0 e least (J := fun u w' => K (.returned u) w') c ?_).mono fun e w' ⟨v, he, hj⟩ => by rw [he]; exact hj
  clear c
  obtain ⟨l, bad⟩ := st
  simp only at hl
  have hsz : (bs l).size = l.length := bs_size l
  have hmin : (min ((bs l).size : Int) 21).toNat = min l.length 21 := by rw [hsz]; omega
  have hhead : (bs l).extract 0 (min ((bs l).size : Int) 21).toNat = bs (l.take 21) := by
    rw [hmin, bs_ext, List.drop_zero, Nat.sub_zero]
    congr 1
    rcases Nat.le_total l.length 21 with h | h
    · rw [Nat.min_eq_left h, List.take_of_length_le (Nat.le_refl _), List.take_of_length_le h]
    · rw [Nat.min_eq_right h]
  refine fun w G cx => ⟨bs l, cx.get 0 rfl rfl, bs l, cx.get 0 rfl rfl, by omega, fun w G cx => ?_⟩
  rw [hhead]
  refine (index_g (bs (l.take 21)) e).in.toI (R := rd b (l, bad) :: S) cx ?_
  rw [bs_list]
  obtain ⟨i, hi⟩ : ∃ i, Lib.indexByte (l.take 21) e.toNat.toUInt8 = i := ⟨_, rfl⟩
  obtain ⟨hge, hidx⟩ := index_neg (l.take 21) e.toNat.toUInt8
  rw [hi] at hge hidx ⊢
  have failK : numP e.toNat.toUInt8 least l = none → ∀ (w : World) (G : List Own), Ctx W w (rd b (l, bad) :: S ++ G) Φ → Calls Tryz.prog F.wire_Reader_fail #[.pointer (some ⟨b, 0, none⟩)] w fun e w' => e = .returned (.tuple #[]) ∧ ∃ R' Φ', Stable Φ' ∧ Ctx W w' (R' ++ G) Φ' ∧ ∀ w F1, Ctx W w (R' ++ F1) Φ' → K (.returned (.int .i64 0)) w := fun hn w G cx => by
    rw [stepN_none (st := (l, bad)) hn] at hk
    exact fail_to (S := S) cx fun w F1 cx => hk w cx.left
  refine Br.intro (fun hneg => fun w G cx => failK ?_ w G cx) (fun hpos => ?_)
  · unfold numP
    simp only [hi]
    rw [if_pos (of_decide_eq_true hneg)]
  have hpos := of_decide_eq_false hpos
  rcases hidx with hidx | ⟨_, hlt, _, _⟩
  · omega
  have hlt2 : i.toNat < (l.take 21).length := by omega
  have hll : (l.take 21).length ≤ l.length := by rw [List.length_take]; omega
  have h21 : (l.take 21).length ≤ 21 := by rw [List.length_take]; omega
  have hhd : (bs (l.take 21)).extract 0 i.toNat = bs (l.take i.toNat) := by
    rw [bs_ext, List.drop_zero, Nat.sub_zero, List.take_take, Nat.min_eq_left (by omega)]
  refine ⟨⟨by omega, by rw [bs_size]; omega⟩, fun w G cx => ?_⟩
  rw [hhd]
  refine atoi_to (R := rd b (l, bad) :: S) (fun M w h => (hΦ M w h).2.1) (fun M w h => (hΦ M w h).2.2) (bs (l.take i.toNat)) (by rw [bs_size, List.length_take]; omega) cx (fun n hn => ?_) (fun n t v hn => ?_)
  · rw [bs_list] at hn
    have hb := Lib.atoiAll_bounds hn
    refine ⟨rd b (l, bad) :: S, Φ, inferInstance, fun w G cx => cx, false, fun w => neq_nil (by decide +kernel) w, Br.intro (fun h => by cases h) (fun _ => ⟨⟨by omega, by rw [bs_size]; omega⟩, fun w G cx => ?_⟩)⟩
    refine (Itoa_in (fun M w h => (hΦ M w h).1) n (by unfold I64; omega)).toS cx ⟨fun w G cx => cx, Br.intro (fun hne => fun w G cx => failK ?_ w G cx) (fun heq => Br.intro (fun hls => fun w G cx => failK ?_ w G cx) (fun hls => fun w G cx => ?_))⟩
    · have hne := of_decide_eq_true hne
      unfold numP
      simp only [hi]
      rw [if_neg (by omega), hn]
      simp only
      rw [if_neg (fun h => hne (by show bs (Lib.itoa n) = _; rw [h.1]))]
    · unfold numP
      simp only [hi]
      rw [if_neg (by omega), hn]
      simp only
      rw [if_neg (fun h => by have := of_decide_eq_true hls; omega)]
    · have heq : Lib.itoa n = l.take i.toNat := bs_inj.1 (Decidable.not_not.1 (of_decide_eq_false heq))
      have hls := of_decide_eq_false hls
      have hnum : numP e.toNat.toUInt8 least l = some (n, l.drop (i.toNat + 1)) := by
        unfold numP
        simp only [hi]
        rw [if_neg (by omega), hn]
        simp only
        rw [if_pos ⟨heq, by omega⟩]
      rw [stepN_some (st := (l, bad)) hnum] at hk
      have hex : (bs l).extract (i + 1).toNat (bs l).size = bs (l.drop (i.toNat + 1)) := by
        rw [bs_ext, hsz, show (i + 1).toNat = i.toNat + 1 by omega]
        congr 1
        exact List.take_of_length_le (by rw [List.length_drop]; omega)
      refine ⟨bs l, cx.get 0 rfl rfl, ?_, ⟨by omega, by omega, Nat.le_refl _⟩, fun w G cx => ⟨cx.can 0 rfl (by simp), fun w' hw' => ?_⟩⟩
      · unfold I64
        omega
      rw [hex] at hw'
      exact ⟨rd b (l.drop (i.toNat + 1), bad) :: S, Φ, inferInstance, cx.put 0 hw' rfl, fun w G cx => hk w cx.left⟩
  · rw [bs_list] at hn
    refine ⟨[], fun _ _ => True, inferInstance, fun w G cx => (cx.weak fun _ _ _ => trivial).right, true, fun w => ?_, Br.intro (fun _ => fun w G cx => failK ?_ w G cx) (fun h => by cases h)⟩
    · exact neq_err (by decide +kernel) w
    · unfold numP
      simp only [hi]
      rw [if_neg (by omega)]

theorem number_to [Stable Φ] (hΦ : ∀ M w, Φ M w → NumI M w) (e : Int) (least : Int) (hl : st.1.length ≤ 1000000000) (c : Ctx W w (rd b st :: S ++ G) Φ) {K : Int → List Own → PW → Prop}
    (hk : K (stepN e.toNat.toUInt8 least st).1 (rd b (stepN e.toNat.toUInt8 least st).2 :: S) Φ) :
    Calls Tryz.prog F.wire_Reader_number #[.pointer (some ⟨b, 0, none⟩), .int .u8 e, .int .i64 least] w fun e w' => ∃ n, e = .returned (.int .i64 n) ∧ ∃ R' Φ', Stable Φ' ∧ Ctx W w' (R' ++ G) Φ' ∧ K n R' Φ' :=
  number_use (S := S ++ G) hΦ e least hl c fun w' c => ⟨_, rfl, _, Φ, inferInstance, c, hk⟩

def rdInt (st : RdS) : Int × RdS := stepN 59 (-9223372036854775808) st
def rdNat (st : RdS) : Int × RdS := stepN 59 0 st

theorem RInt_to [Stable Φ] (hΦ : ∀ M w, Φ M w → NumI M w) (hl : st.1.length ≤ 1000000000) (c : Ctx W w (rd b st :: S ++ G) Φ) {K : Int → List Own → PW → Prop}
    (hk : K (rdInt st).1 (rd b (rdInt st).2 :: S) Φ) :
    Calls Tryz.prog F.wire_Reader_Int #[.pointer (some ⟨b, 0, none⟩)] w fun e w' => ∃ n, e = .returned (.int .i64 n) ∧ ∃ R' Φ', Stable Φ' ∧ Ctx W w' (R' ++ G) Φ' ∧ K n R' Φ' := by
  refine (Bwire_Reader_Int_run b 0 (J := fun u w' => ∃ n, (Ending.returned u) = .returned (.int .i64 n) ∧ ∃ R' Φ', Stable Φ' ∧ Ctx W w' (R' ++ G) Φ' ∧ K n R' Φ') (R := rd b st :: (S ++ G)) c ?_).mono fun e w' ⟨v, he, hj⟩ => by rw [he]; exact hj
  exact fun w F1 cx => number_to (S := S ++ G) hΦ 59 _ hl cx fun w F1 cx => ⟨_, rfl, _, Φ, inferInstance, cx.left, hk⟩
theorem RNum_to [Stable Φ] (hΦ : ∀ M w, Φ M w → NumI M w) (hl : st.1.length ≤ 1000000000) (c : Ctx W w (rd b st :: S ++ G) Φ) {K : Int → List Own → PW → Prop}
    (hk : K (rdNat st).1 (rd b (rdNat st).2 :: S) Φ) :
    Calls Tryz.prog F.wire_Reader_Num #[.pointer (some ⟨b, 0, none⟩)] w fun e w' => ∃ n, e = .returned (.int .i64 n) ∧ ∃ R' Φ', Stable Φ' ∧ Ctx W w' (R' ++ G) Φ' ∧ K n R' Φ' := by
  refine (Bwire_Reader_Num_run b 0 (J := fun u w' => ∃ n, (Ending.returned u) = .returned (.int .i64 n) ∧ ∃ R' Φ', Stable Φ' ∧ Ctx W w' (R' ++ G) Φ' ∧ K n R' Φ') (R := rd b st :: (S ++ G)) c ?_).mono fun e w' ⟨v, he, hj⟩ => by rw [he]; exact hj
  exact fun w F1 cx => number_to (S := S ++ G) hΦ 59 _ hl cx fun w F1 cx => ⟨_, rfl, _, Φ, inferInstance, cx.left, hk⟩

def rdDone (st : RdS) : Bool := !st.2 && decide (st.1 = [])
theorem Done_to [Stable Φ] (c : Ctx W w (rd b st :: S ++ G) Φ) {K : Bool → List Own → PW → Prop} (hk : K (rdDone st) (rd b st :: S) Φ) :
    Calls Tryz.prog F.wire_Reader_Done #[.pointer (some ⟨b, 0, none⟩)] w fun e w' => ∃ n, e = .returned (.bool n) ∧ ∃ R' Φ', Stable Φ' ∧ Ctx W w' (R' ++ G) Φ' ∧ K n R' Φ' := by
  refine (Bwire_Reader_Done_run b 0 (J := fun u w' => ∃ n, (Ending.returned u) = .returned (.bool n) ∧ ∃ R' Φ', Stable Φ' ∧ Ctx W w' (R' ++ G) Φ' ∧ K n R' Φ') (R := rd b st :: (S ++ G)) c ?_).mono fun e w' ⟨v, he, hj⟩ => by rw [he]; exact hj
  refine fun w F1 cx => ⟨st.2, cx.get 0 rfl rfl, bs st.1, fun _ => cx.get 0 rfl rfl, fun w F1 cx => ⟨rdDone st, ?_, _, Φ, inferInstance, cx.left, hk⟩⟩
  have e : decide (bs st.1 = ByteArray.mk #[]) = decide (st.1 = []) := by
    rw [show ByteArray.mk #[] = bs [] from rfl]
    exact decide_eq_decide.2 bs_inj
  rw [e]
  rfl

theorem prefix_one (c : UInt8) (l : List UInt8) : Lib.hasPrefix l [c] = (match l with | [] => false | x :: _ => x == c) := by
  cases l with
  | nil => rfl
  | cons x r =>
    unfold Lib.hasPrefix
    rw [List.isPrefixOf_cons_cons]
    simp [Bool.beq_comm]

theorem close_to [Stable Φ] (e : UInt8) (c : Ctx W w (rd b st :: S ++ G) Φ) {K : List Own → PW → Prop} (hk : K (rd b (stepC e st) :: S) Φ) :
    Calls Tryz.prog F.wire_Reader_close #[.pointer (some ⟨b, 0, none⟩), .string (ByteArray.mk #[e])] w fun e w' => e = .returned (.tuple #[]) ∧ ∃ R' Φ', Stable Φ' ∧ Ctx W w' (R' ++ G) Φ' ∧ K R' Φ' := by
  refine (Bwire_Reader_close_run b 0 (ByteArray.mk #[e]) (J := fun u w' => (Ending.returned u) = .returned (.tuple #[]) ∧ ∃ R' Φ', Stable Φ' ∧ Ctx W w' (R' ++ G) Φ' ∧ K R' Φ') (R := rd b st :: (S ++ G)) c ?_).mono fun e w' ⟨v, he, hj⟩ => by rw [he]; exact hj
  clear c
  obtain ⟨l, bad⟩ := st
  refine fun w F1 cx => ⟨bs l, cx.get 0 rfl rfl, fun w F1 cx => ?_⟩
  refine (Any.strings_CutPrefix Tryz.lays103 (bs l) (ByteArray.mk #[e]) w).mono fun e2 w' ⟨he, hw⟩ => ?_
  subst hw
  refine ⟨_, _, he, rd b (l, bad) :: (S ++ G), Φ, inferInstance, cx, ?_⟩
  clear cx
  rw [bs_list, show (ByteArray.mk #[e]).data.toList = [e] from rfl]
  unfold Lib.trimPrefix
  rw [prefix_one]
  unfold stepC at hk
  cases l with
  | nil =>
    refine fun w F1 cx => ⟨cx.can 0 rfl (by simp), fun w' hw' => ⟨rd b ([], bad) :: (S ++ G), Φ, inferInstance, cx.put 0 hw' rfl, Br.intro (fun _ => fun w F1 cx => fail_to (S := S ++ G) cx fun w F1 cx => ⟨by first | trivial | rfl, _, Φ, inferInstance, cx.left, hk⟩) (fun h => by cases h)⟩⟩
  | cons x r =>
    simp only at hk ⊢
    by_cases hx : x = e
    · subst hx
      rw [if_pos rfl] at hk
      rw [if_pos (by simp)]
      refine fun w F1 cx => ⟨cx.can 0 rfl (by simp), fun w' hw' => ⟨rd b (r, bad) :: (S ++ G), Φ, inferInstance, cx.put 0 hw' rfl, Br.intro (fun h => by simp at h) (fun _ => fun w F1 cx => ⟨by first | trivial | rfl, _, Φ, inferInstance, cx.left, hk⟩)⟩⟩
    · rw [if_neg hx] at hk
      rw [if_neg (by simpa using hx)]
      refine fun w F1 cx => ⟨cx.can 0 rfl (by simp), fun w' hw' => ⟨rd b (x :: r, bad) :: (S ++ G), Φ, inferInstance, cx.put 0 hw' rfl, Br.intro (fun _ => fun w F1 cx => fail_to (S := S ++ G) cx fun w F1 cx => ⟨by first | trivial | rfl, _, Φ, inferInstance, cx.left, hk⟩) (fun h => by simp at h; exact absurd h hx)⟩⟩

theorem stepN_nonneg {e : UInt8} (he : e.toNat = 58 ∨ e.toNat = 59 ∨ e.toNat = 91) (st : RdS) : 0 ≤ (stepN e 0 st).1 ∧ (stepN e 0 st).1 ≤ 9223372036854775807 := by
  unfold stepN
  split
  · rename_i n r h
    obtain ⟨⟨h1, h2⟩, _⟩ := (numP_iff he).1 h
    unfold I64 at h1
    simp only; omega
  · simp only; omega
theorem stepN_len (e : UInt8) (least : Int) (st : RdS) : (stepN e least st).2.1.length ≤ st.1.length := by
  unfold stepN
  split
  · rename_i n r h
    unfold numP at h
    simp only at h
    split at h
    · cases h
    · split at h
      · split at h
        · cases h
          simp only [List.length_drop]; omega
        · cases h
      · cases h
  · simp

theorem Text_to [Stable Φ] (hΦ : ∀ M w, Φ M w → NumI M w) (hl : st.1.length ≤ 1000000000) (c : Ctx W w (rd b st :: S ++ G) Φ) {K : ByteArray → List Own → PW → Prop}
    (hk : K (stepT st).1 (rd b (stepT st).2 :: S) Φ) :
    Calls Tryz.prog F.wire_Reader_Text #[.pointer (some ⟨b, 0, none⟩)] w fun e w' => ∃ n, e = .returned (.string n) ∧ ∃ R' Φ', Stable Φ' ∧ Ctx W w' (R' ++ G) Φ' ∧ K n R' Φ' := by
  refine (Bwire_Reader_Text_run b 0 (J := fun u w' => ∃ n, (Ending.returned u) = .returned (.string n) ∧ ∃ R' Φ', Stable Φ' ∧ Ctx W w' (R' ++ G) Φ' ∧ K n R' Φ') (R := rd b st :: (S ++ G)) c ?_).mono fun e w' ⟨v, he, hj⟩ => by rw [he]; exact hj
  clear c
  refine fun w F1 cx => number_to (S := S ++ G) hΦ 58 0 hl cx ?_
  rw [show ((58 : Int).toNat.toUInt8) = (58 : UInt8) from rfl]
  unfold stepT at hk
  simp only at hk
  have hn := stepN_nonneg (e := 58) (.inl rfl) st
  obtain ⟨⟨n, l, bad⟩, ha⟩ : ∃ a, stepN 58 0 st = a := ⟨_, rfl⟩
  rw [ha] at hk hn ⊢
  simp only at hk hn ⊢
  refine fun w F1 cx => ⟨bs l, cx.get 0 rfl rfl, Br.intro (fun h => ?_) (fun h => ?_)⟩
  · have h := of_decide_eq_true h
    rw [bs_size] at h
    rw [if_pos h] at hk
    exact fun w F1 cx => fail_to (S := S ++ G) cx fun w F1 cx => ⟨_, rfl, _, Φ, inferInstance, cx.left, hk⟩
  · have h := of_decide_eq_false h
    rw [bs_size] at h
    rw [if_neg h] at hk
    have e1 : (bs l).extract n.toNat (bs l).size = bs (l.drop n.toNat) := by
      rw [bs_ext, bs_size]
      congr 1
      exact List.take_of_length_le (by rw [List.length_drop]; omega)
    have e2 : (bs l).extract 0 n.toNat = bs (l.take n.toNat) := by rw [bs_ext, List.drop_zero, Nat.sub_zero]
    refine fun w F1 cx => ⟨bs l, cx.get 0 rfl rfl, ⟨by omega, by rw [bs_size]; omega⟩, fun w F1 cx => ⟨bs l, cx.get 0 rfl rfl, ⟨by omega, by rw [bs_size]; omega, Nat.le_refl _⟩, fun w F1 cx => ⟨cx.can 0 rfl (by simp), fun w' hw' => ?_⟩⟩⟩
    rw [e1] at hw'
    refine ⟨rd b (l.drop n.toNat, bad) :: (S ++ G), Φ, inferInstance, cx.put 0 hw' rfl, fun w F1 cx => close_to (S := S ++ G) 44 cx fun w F1 cx => ⟨(stepC 44 (l.drop n.toNat, bad)).2, cx.get 0 rfl rfl, Br.intro (fun hb => ?_) (fun hb => ?_)⟩⟩
    · rw [hb] at hk
      exact fun w F1 cx => ⟨_, rfl, _, Φ, inferInstance, cx.left, hk⟩
    · rw [hb] at hk
      rw [e2]
      exact fun w F1 cx => ⟨_, rfl, _, Φ, inferInstance, cx.left, hk⟩

end
end Go.Proofs.YtebnciehcnedjaaGreatDoor
end

/-
  Rows, read: in plain Lean, and walked.
-/
section
set_option linter.unusedVariables false
set_option linter.unusedSimpArgs false
namespace Go.Proofs.YtebnciehcnedjaaGreatDoor
open Go.Vc


/-! ### in plain Lean -/
theorem intB_list (n : Int) : (intB n).data.toList = Lib.itoa n ++ [59] := by
  unfold intB numB
  rw [ByteArray.data_append, Array.toList_append]
theorem textB_list (s : ByteArray) : (textB s).data.toList = Lib.itoa s.size ++ 58 :: (s.data.toList ++ [44]) := by
  unfold textB numB
  simp [ByteArray.data_append]
/-! lengths -/
theorem stepC_len (c : UInt8) (st : RdS) : (stepC c st).1.length ≤ st.1.length := by
  unfold stepC
  split
  · simp
  · rename_i h
    split
    · rw [h]; simp
    · simp
theorem stepT_len (st : RdS) : (stepT st).2.1.length ≤ st.1.length ∧ (stepT st).1.size ≤ st.1.length := by
  have h1 := stepN_len 58 0 st
  have h2 := stepC_len 44 (((stepN 58 0 st).2.1.drop (stepN 58 0 st).1.toNat, (stepN 58 0 st).2.2))
  rw [List.length_drop] at h2
  unfold stepT
  simp only
  split
  · exact ⟨Nat.zero_le _, Nat.zero_le _⟩
  · refine ⟨by simp only; omega, ?_⟩
    simp only
    split
    · exact Nat.zero_le _
    · rw [bs_size, List.length_take]; omega
theorem rdInt_i64 (st : RdS) : I64 (rdInt st).1 := by
  unfold rdInt stepN
  split
  · rename_i n r h
    exact ((numP_iff (.inr (.inl rfl))).1 h).1.1
  · unfold I64; simp
/-! ### walked -/
section
variable {W w : World} {R G S : List Own} {Φ : PW} {b : Nat} {st : RdS}

end
end Go.Proofs.YtebnciehcnedjaaGreatDoor
end

