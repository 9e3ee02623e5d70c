/-
  STEPS of a walk: a call whose contract is known, and what follows it.
-/
import Derived.Test.YtebnciehcnedjaaGreatDoorSTl6

set_option linter.unusedVariables false
set_option linter.unusedSimpArgs false
section
namespace Go.Vc
section
variable {P : Program} {W w : World} {R G : List Own} {Φ Ψ : PW} {f : FuncId} {args : Array Value}
class Has (Φ Ψ : PW) : Prop where
  go : ∀ M w, Φ M w → Ψ M w
instance (priority := 2000) hasRefl (Φ : PW) : Has Φ Φ := ⟨fun _ _ h => h⟩
instance (priority := 900) hasL (A B Ψ : PW) [h : Has A Ψ] : Has (fun M w => A M w ∧ B M w) Ψ := ⟨fun M w x => h.go M w x.1⟩
instance (priority := 1000) hasR (A B Ψ : PW) [h : Has B Ψ] : Has (fun M w => A M w ∧ B M w) Ψ := ⟨fun M w x => h.go M w x.2⟩
instance hasTrue (Φ : PW) : Has Φ (fun _ _ => True) := ⟨fun _ _ _ => trivial⟩
instance (priority := 800) hasAnd (Φ A B : PW) [h : Has Φ A] [k : Has Φ B] : Has Φ (fun M w => A M w ∧ B M w) := ⟨fun M w x => ⟨h.go M w x, k.go M w x⟩⟩
theorem Ctx.has (c : Ctx W w R Φ) [h : Has Φ Ψ] : Ctx W w R Ψ := c.weak h.go
theorem GivesSl.to [Stable Φ] {α : Type} [Gv α] {l : List α} (h : GivesSl Φ P f args l id) (c : Ctx W w (R ++ G) Φ) {K : Option Addr → Nat → Nat → List Own → PW → Prop}
    (hk : ∀ p cap, l.length ≤ cap → cap ≤ maxLen → Stable (fun M w => Φ M w ∧ Sl M w p l) → K p l.length cap R (fun M w => Φ M w ∧ Sl M w p l)) :
    Calls P f args w fun e w' => ∃ p n c, e = .returned (.slice p n c) ∧ ∃ R' Φ', Stable Φ' ∧ Ctx W w' (R' ++ G) Φ' ∧ K p n c R' Φ' :=
  h.use c fun p cap w' h1 h2 c => ⟨p, _, cap, rfl, R, _, inferInstance, c, hk p cap h1 h2 inferInstance⟩
theorem GivesIn.toB [Stable Φ] {b : Bool} (h : GivesIn Φ P f args (.bool b)) (c : Ctx W w (R ++ G) Φ) {K : Bool → List Own → PW → Prop} (hk : K b R Φ) :
    Calls P f args w fun e w' => ∃ c, e = .returned (.bool c) ∧ ∃ R' Φ', Stable Φ' ∧ Ctx W w' (R' ++ G) Φ' ∧ K c R' Φ' :=
  h.use c fun w' c => ⟨b, rfl, R, Φ, inferInstance, c, hk⟩
theorem GivesIn.toI [Stable Φ] {n : Int} {k : IntKind} (h : GivesIn Φ P f args (.int k n)) (c : Ctx W w (R ++ G) Φ) {K : Int → List Own → PW → Prop} (hk : K n R Φ) :
    Calls P f args w fun e w' => ∃ c, e = .returned (.int k c) ∧ ∃ R' Φ', Stable Φ' ∧ Ctx W w' (R' ++ G) Φ' ∧ K c R' Φ' :=
  h.use c fun w' c => ⟨n, rfl, R, Φ, inferInstance, c, hk⟩
theorem GivesIn.toS [Stable Φ] {s : ByteArray} (h : GivesIn Φ P f args (.string s)) (c : Ctx W w (R ++ G) Φ) {K : ByteArray → List Own → PW → Prop} (hk : K s R Φ) :
    Calls P f args w fun e w' => ∃ c, e = .returned (.string c) ∧ ∃ R' Φ', Stable Φ' ∧ Ctx W w' (R' ++ G) Φ' ∧ K c R' Φ' :=
  h.use c fun w' c => ⟨s, rfl, R, Φ, inferInstance, c, hk⟩
theorem GivesSl.tot [Stable Φ] {α : Type} [Gv α] {l : List α} (h : GivesSl Φ P f args l id) (c : Ctx W w (R ++ G) Φ) {K : Option Addr → Nat → Nat → List Own → PW → Prop}
    (hk : ∀ p cap, l.length ≤ cap → cap ≤ maxLen → There p l.length → Stable (fun M w => Φ M w ∧ Sl M w p l) → K p l.length cap R (fun M w => Φ M w ∧ Sl M w p l)) :
    Calls P f args w fun e w' => ∃ p n c, e = .returned (.slice p n c) ∧ ∃ R' Φ', Stable Φ' ∧ Ctx W w' (R' ++ G) Φ' ∧ K p n c R' Φ' :=
  h.use c fun p cap w' h1 h2 c => ⟨p, _, cap, rfl, R, _, inferInstance, c, hk p cap h1 h2 c.phi.2.there inferInstance⟩
theorem fin [Stable Φ] [Stable Ψ] [hw : Has Ψ Φ] {v : Value} (c : Ctx W w (R ++ G) Ψ) : v = v ∧ Ctx W w R Φ := ⟨rfl, (Ctx.has c).left⟩
end
end Go.Vc
end

section
namespace Go.Proofs.YtebnciehcnedjaaGreatDoor
open Go.Vc
theorem sl_pair {M : List Nat} {w : World} {b o : Nat} {l : Run} (h : Sl M w (some ⟨b, o, none⟩) l) {j : Nat} (hj : j < l.length) : RowAt w b (o + j * 2) [.string l[j].key, .string l[j].val] := by
  obtain ⟨b', o', cs, e, _, h3, h4⟩ := h j hj
  cases e
  obtain ⟨rfl, _⟩ := pair_cells h4
  exact h3
theorem shr2 (t : TypeId) (k : Nat) (h : k < 9223372036854775808) (w : World) : Sem.run Tryz.prog (binOp BinOp.shr t (.int .u64 (IntKind.u64.wrap (k : Int))) (.int .u64 1)) w = .ok (.int .u64 ((k / 2 : Nat) : Int)) w := by
  have e : IntKind.u64.wrap (k : Int) = k := by simp [IntKind.wrap, IntKind.signed, IntKind.bits]; omega
  rw [e]
  show Sem.run Tryz.prog (Op.shift .shr .u64 (k : Int) .u64 1) w = _
  unfold Op.shift
  simp [Sem.run_pure]
  show (k : Int).fdiv 2 = _
  rw [Int.fdiv_eq_ediv_of_nonneg _ (by decide)]
section
variable {Φ : PW}
theorem Search_in [Stable Φ] {p : Option Addr} {cap : Nat} {l : Run} (k : ByteArray) [hΦ : Has Φ (fun M w => Sl M w p l)] (ha : AscK l) (hl : l.length ≤ 100000000) :
    GivesIn Φ Tryz.prog F.slices_BinarySearchFunc_store_run_api_Pair_string #[.slice p l.length cap, .string k, .func (.func F.store_run_find_1) #[] #[]] (.tuple #[.int .i64 (lowK l k), .bool (fndK l k)]) := by
  refine GivesIn.there (fun M w h => (hΦ.go M w h).there) fun ht => ?_
  refine gives_in (Bslices_BinarySearchFunc_store_run_api_Pair_string_run p l.length cap k F.store_run_find_1 #[]) fun W R => ?_
  refine exI_mk (fun aI bI R' Φ' n => ∃ i j : Nat, aI = i ∧ bI = j ∧ i ≤ j ∧ j ≤ l.length ∧ (∀ q (h : q < l.length), q < i → cmpT l[q].key k < 0) ∧ (∀ q (h : q < l.length), j ≤ q → ¬ cmpT l[q].key k < 0) ∧ R' = R ∧ Φ' = Φ ∧ n = j - i)
    ⟨⟨R, Φ, _, inferInstance, fun w G cx => cx, 0, l.length, rfl, rfl, Nat.zero_le _, Nat.le_refl _, fun q h h2 => by omega, fun q h h2 => by omega, rfl, rfl, rfl⟩, ?_⟩
  rintro aI bI R1 Φ1 n _ ⟨i, j, rfl, rfl, hij, hj, h1, h2, rfl, rfl, rfl⟩
  refine Br.intro (fun hlt => ?_) (fun hge => ?_)
  · have hlt : i < j := by have := of_decide_eq_true hlt; omega
    have e : ((i : Int) + (j : Int)) = ((i + j : Nat) : Int) := by omega
    rw [e]
    refine ⟨by unfold I64; omega, (((i + j) / 2 : Nat) : Int), fun w => shr2 _ _ (by omega) w, ?_⟩
    rw [wrap_nat (k := (i + j) / 2) (by omega)]
    obtain ⟨m, hm⟩ : ∃ m, (i + j) / 2 = m := ⟨_, rfl⟩
    rw [hm]
    have him : i ≤ m := by omega
    have hmj : m < j := by omega
    obtain ⟨b, o, hp⟩ := ht (by omega)
    refine ⟨⟨by omega, by omega⟩, ptrK_intro b o hp fun w G cx => ⟨l[m].key, l[m].val, by rw [Int.toNat_natCast]; exact sl_pair (by rw [← hp]; exact hΦ.go _ _ cx.phi) (by omega), fun w G cx => ⟨by kernel_rfl, (find1_g l[m] k).use cx fun w cx => ⟨_, rfl, R1, Φ1, inferInstance, cx, Br.intro (fun hc => ?_) (fun hc => ?_)⟩⟩⟩⟩
    · have hc := of_decide_eq_true hc
      refine ⟨by unfold I64; omega, R1, Φ1, j - (m + 1), inferInstance, fun w G cx => cx, ⟨m + 1, j, by omega, rfl, by omega, hj, fun q h hq => ?_, h2, rfl, rfl, rfl⟩, by omega⟩
      by_cases e : q = m
      · subst e; exact hc
      · exact cmpT_cmp.trans _ _ _ (List.pairwise_iff_getElem.1 ha q m h (by omega) (by omega)) hc
    · have hc := of_decide_eq_false hc
      refine ⟨R1, Φ1, m - i, inferInstance, fun w G cx => cx, ⟨i, m, rfl, rfl, him, by omega, h1, fun q h hq => ?_, rfl, rfl, rfl⟩, by omega⟩
      by_cases e : q = m
      · subst e; exact hc
      · exact fun h3 => hc (cmpT_cmp.trans _ _ _ (List.pairwise_iff_getElem.1 ha m q (by omega) h (by omega)) h3)
  · have hge : i = j := by have := of_decide_eq_false hge; omega
    have hlow : lowK l k = i := lowK_eq (by omega) h1 (fun q h h3 => h2 q h (by omega))
    refine Br.intro (fun hlt => ?_) (fun hn => fun w G cx => ?_)
    · have hlt : i < l.length := by have := of_decide_eq_true hlt; omega
      obtain ⟨b, o, hp⟩ := ht (by omega)
      have hf : fndK l k = decide (cmpT l[i].key k = 0) := by unfold fndK; rw [hlow, List.getElem?_eq_getElem hlt]
      exact ⟨⟨by omega, by omega⟩, ptrK_intro b o hp fun w G cx => ⟨l[i].key, l[i].val, by rw [Int.toNat_natCast]; exact sl_pair (by rw [← hp]; exact hΦ.go _ _ cx.phi) hlt, fun w G cx => ⟨by kernel_rfl, (find1_g l[i] k).use cx fun w cx => ⟨_, rfl, R1, Φ1, inferInstance, cx, fun w G cx => ⟨by rw [hlow, hf], cx.left⟩⟩⟩⟩⟩
    · have hn : l.length ≤ i := by have := of_decide_eq_false hn; omega
      have hf : fndK l k = false := by unfold fndK; rw [hlow, List.getElem?_eq_none hn]
      exact ⟨by rw [hlow, hf], cx.left⟩
theorem find_in [Stable Φ] {p : Option Addr} {cap : Nat} {l : Run} (k : ByteArray) [hΦ : Has Φ (fun M w => Sl M w p l)] (ha : AscK l) (hl : l.length ≤ 100000000) :
    GivesIn Φ Tryz.prog F.store_run_find #[.slice p l.length cap, .string k] (.tuple #[.int .i64 (lowK l k), .bool (fndK l k)]) := by
  refine gives_in (Bstore_run_find_run p l.length cap k) fun W R => fun w G cx => ?_
  exact (Search_in k ha hl).use cx fun w cx => ⟨_, _, rfl, R, Φ, inferInstance, cx, fun w G cx => ⟨rfl, cx.left⟩⟩
end
theorem ov_there : (Tryz.prog.funcs[91]?).isSome = true := by kernel_rfl
theorem InsP_f : InsF Tryz.prog 2 74 48 3 69 32 91 :=
  ⟨by kernel_rfl, by kernel_rfl, by kernel_rfl, by omega, by omega, ⟨(Tryz.prog.funcs[91]?).get ov_there, 4, (Option.some_get ov_there).symm, by kernel_rfl, by kernel_rfl, by kernel_rfl, by kernel_rfl⟩⟩
theorem cellsE_one (es : List PE) : ∀ u ∈ cellsE es, oneC u = true := by
  induction es with
  | nil => intro u h; cases h
  | cons x l ih =>
    intro u h
    rcases List.mem_cons.1 h with rfl | h
    · rfl
    · rcases List.mem_cons.1 h with rfl | h
      · rfl
      · exact ih u h
theorem Insert_use {W w : World} {S : List Own} {Φ : PW} [Stable Φ] {p : Option Addr} {cap : Nat} {es : List PE} {x : PE} {vb : Nat} {tvb : TypeId} {i : Nat} (hi : i ≤ es.length) (hn : es.length ≤ 100000) (cx : Ctx W w (bufE p cap es :: .blk vb x.cells tvb :: S) Φ) {K : Ending → World → Prop}
    (hK : ∀ p' cap' w', Ctx W w' (bufE p' cap' (es.take i ++ x :: es.drop i) :: .blk vb x.cells tvb :: S) Φ → K (.returned (.slice p' (es.length + 1) cap')) w') :
    Calls Tryz.prog F.slices_Insert_store_run_api_Pair #[.slice p es.length cap, .int .i64 i, .slice (some ⟨vb, 0, none⟩) 1 1] w K := by
  obtain ⟨hcl, hnc, hcm⟩ := cx.bufLen 0 rfl
  have h : insB Tryz.prog 2 74 48 3 91 F.slices_rotateRight_api_Pair p es.length cap i (some ⟨vb, 0, none⟩) 1 1 W (bufE p cap es :: .blk vb x.cells tvb :: S) Φ (fun u w' => K (.returned u) w') :=
    insB_one InsP_f hi (vs := x.cells) (tvb := tvb) (S := S) rfl (by intro u hu; rcases List.mem_cons.1 hu with rfl | hu; rfl; rcases List.mem_cons.1 hu with rfl | hu; rfl; cases hu) (cellsE_one es) hn hnc hcm (fun h => e_ptr cx h) hcl fun p' cap' w G cx2 => by
      refine hK p' cap' w ?_
      have e : cellsE (es.take i ++ x :: es.drop i) = (cellsE es).take (i * 2) ++ x.cells ++ (cellsE es).drop (i * 2) := by
        rw [cellsE_app, cellsE_take, cellsE_drop, List.append_assoc]
        rfl
      have el : (es.take i ++ x :: es.drop i).length = es.length + 1 := by rw [List.length_append, List.length_cons, List.length_take, List.length_drop]; omega
      unfold bufE
      rw [e, el]
      exact cx2.left
  have h2 : Bslices_Insert_store_run_api_Pair p es.length cap i (some ⟨vb, 0, none⟩) 1 1 W (bufE p cap es :: .blk vb x.cells tvb :: S) Φ (fun u w' => K (.returned u) w') := by
    unfold Bslices_Insert_store_run_api_Pair
    unfold insB at h
    exact h
  exact (Bslices_Insert_store_run_api_Pair_run p es.length cap i (some ⟨vb, 0, none⟩) 1 1 (J := fun u w' => K (.returned u) w') cx h2).mono fun e w' ⟨v, he, hj⟩ => by rw [he]; exact hj
end Go.Proofs.YtebnciehcnedjaaGreatDoor
end

section
namespace Go.Proofs.YtebnciehcnedjaaGreatDoor
open Go.Vc
abbrev goneF (f : PairD → Bool) (x : PE) : Bool := f x.d
def firstE (f : PairD → Bool) (es : List PE) : Int := if es.findIdx (goneF f) < es.length then (es.findIdx (goneF f) : Int) else -1
structure DelFn (Φ : PW) (df : FuncId) (dc : Array Value) (f : PairD → Bool) : Prop where
  ok : okFun Tryz.prog df = true
  go : ∀ x : PairD, GivesIn Φ Tryz.prog df (Array.mk (x.v :: dc.toList)) (.bool (f x))
theorem IndexFunc_use {W w : World} {S : List Own} {Φ : PW} [Stable Φ] {df : FuncId} {dc : Array Value} {f : PairD → Bool} (hf : DelFn Φ df dc f) {p : Option Addr} {cap : Nat} (es : List PE) (hl : es.length ≤ 100000000) (cx : Ctx W w (bufE p cap es :: S) Φ) {K : Ending → World → Prop}
    (hK : ∀ w', Ctx W w' (bufE p cap es :: S) Φ → K (.returned (.int .i64 (firstE f es))) w') :
    Calls Tryz.prog F.slices_IndexFunc_store_run_api_Pair #[.slice p es.length cap, .func (.func df) #[] dc] w K := by
  refine (Bslices_IndexFunc_store_run_api_Pair_run p es.length cap df dc (J := fun u w' => K (.returned u) w') cx ?_).mono fun e w' ⟨v, he, hj⟩ => by rw [he]; exact hj
  have hp : 0 < es.length → ∃ g, p = some ⟨g, 0, none⟩ := fun h => e_ptr cx h
  refine exI_mk (fun iI R' Φ' n => ∃ i : Nat, iI = i ∧ i ≤ es.length ∧ (∀ q (h : q < es.length), q < i → (goneF f) es[q] = false) ∧ R' = bufE p cap es :: S ∧ Φ' = Φ ∧ n = es.length - i) ⟨⟨_, Φ, _, inferInstance, fun w G cx => cx, 0, rfl, Nat.zero_le _, fun q h h2 => by omega, rfl, rfl, rfl⟩, ?_⟩
  clear cx
  rintro iI R1 Φ1 n _ ⟨i, rfl, hi, h1, rfl, rfl, rfl⟩
  refine Br.intro (fun hlt => ?_) (fun hge => fun w G cx => ?_)
  · have hlt : i < es.length := by have := of_decide_eq_true hlt; omega
    obtain ⟨g, hg⟩ := hp (by omega)
    subst hg
    refine ⟨⟨by omega, by omega⟩, ptrK_intro g 0 rfl fun w G cx => ⟨es[i].d.key, es[i].d.val, by rw [Nat.zero_add, Int.toNat_natCast]; exact e_row cx (List.getElem?_eq_getElem hlt), fun w G cx => ⟨hf.ok, (hf.go es[i].d).use cx fun w cx => ⟨_, rfl, bufE (some ⟨g, 0, none⟩) cap es :: S, Φ1, inferInstance, cx, Br.intro (fun hc => fun w G cx => ?_) (fun hc => ?_)⟩⟩⟩⟩
    · have e : es.findIdx (goneF f) = i := List.findIdx_eq hlt |>.2 ⟨hc, fun q hq => by rw [h1 q (by omega) hq]⟩
      have := hK w cx.left
      unfold firstE at this
      rw [e, if_pos hlt] at this
      exact this
    · exact ⟨by unfold I64; omega, _, Φ1, es.length - (i + 1), inferInstance, fun w G cx => cx, ⟨i + 1, by omega, by omega, fun q h hq => by
        by_cases e : q = i
        · subst e; exact hc
        · exact h1 q h (by omega), rfl, rfl, rfl⟩, by omega⟩
  · have hge : es.length ≤ i := by have := of_decide_eq_false hge; omega
    have e : ¬ es.findIdx (goneF f) < es.length := fun h => by
      have h2 := List.findIdx_getElem (w := h)
      rw [h1 _ h (by omega)] at h2
      cases h2
    have := hK w cx.left
    unfold firstE at this
    rw [if_neg e] at this
    exact this
set_option maxHeartbeats 2000000 in
theorem Delete_use {W w : World} {S : List Own} {Φ : PW} [Stable Φ] {df : FuncId} {dc : Array Value} {f : PairD → Bool} (hdf : DelFn Φ df dc f) {p : Option Addr} {cap : Nat} (es : List PE) (hl : es.length ≤ 100000000) (cx : Ctx W w (bufE p cap es :: S) Φ) {K : Ending → World → Prop}
    (hK : ∀ w', Ctx W w' (bufE p cap (es.filter fun x => !(goneF f) x) :: S) Φ → K (.returned (.slice p (es.filter fun x => !(goneF f) x).length cap)) w') :
    Calls Tryz.prog F.slices_DeleteFunc_store_run_api_Pair #[.slice p es.length cap, .func (.func df) #[] dc] w K := by
  refine (Bslices_DeleteFunc_store_run_api_Pair_run p es.length cap df dc (J := fun u w' => K (.returned u) w') cx ?_).mono fun e w' ⟨v, he, hj⟩ => by rw [he]; exact hj
  have hp : 0 < es.length → ∃ g, p = some ⟨g, 0, none⟩ := fun h => e_ptr cx h
  obtain ⟨_, hnc, hcm⟩ := cx.bufLen 0 rfl
  clear cx
  refine fun w G cx => IndexFunc_use hdf es hl cx fun w cx => ⟨_, rfl, bufE p cap es :: S, Φ, inferInstance, cx, ?_⟩
  clear cx
  unfold firstE
  by_cases hf : es.findIdx (goneF f) < es.length
  case neg =>
    rw [if_neg hf]
    refine Br.intro (fun _ => fun w G cx => ?_) (fun h => absurd rfl (of_decide_eq_false h))
    have e : es.filter (fun x => !(goneF f) x) = es := List.filter_eq_self.2 fun x hx => by
      cases h : (goneF f) x with
      | false => rfl
      | true => exact absurd (List.findIdx_lt_length.2 ⟨x, hx, h⟩) hf
    rw [e] at hK
    exact hK w cx.left
  rw [if_pos hf]
  obtain ⟨g, hg⟩ := hp (by omega)
  subst hg
  obtain ⟨i0, hi0⟩ : ∃ i0, es.findIdx (goneF f) = i0 := ⟨_, rfl⟩
  have hg0 : (goneF f) (es[i0]'(by omega)) = true := by
    have := List.findIdx_getElem (w := hf)
    simp only [hi0] at this
    exact this
  have hb0 : ∀ q (h : q < es.length), q < i0 → (goneF f) es[q] = false := fun q h hq => by
    have := List.not_of_lt_findIdx (p := (goneF f)) (xs := es) (i := q) (by omega)
    simpa using this
  rw [hi0] at hf ⊢
  have hstart : es.take i0 = (es.take (i0 + 1)).filter fun x => !(goneF f) x := by
    rw [List.take_succ_eq_append_getElem hf, List.filter_append, List.filter_cons_of_neg (by rw [hg0]; simp), List.filter_nil, List.append_nil]
    refine (List.filter_eq_self.2 fun x hx => ?_).symm
    obtain ⟨q, hq, rfl⟩ := List.getElem_of_mem hx
    rw [List.length_take] at hq
    rw [List.getElem_take, hb0 q (by omega) (by omega)]
    rfl
  refine Br.intro (fun h => absurd (of_decide_eq_true h) (by omega)) (fun _ => ⟨by unfold I64; omega, ?_⟩)
  refine exI_mk (fun aI bI R' Φ' n => ∃ (i j : Nat) (cur : List PE), aI = i ∧ bI = j ∧ i < j ∧ j ≤ es.length ∧ cur.length = es.length ∧ cur.take i = (es.take j).filter (fun x => !(goneF f) x) ∧ cur.drop j = es.drop j ∧ R' = bufE (some ⟨g, 0, none⟩) cap cur :: S ∧ Φ' = Φ ∧ n = es.length - j)
    ⟨⟨_, Φ, _, inferInstance, fun w G cx => cx, i0, i0 + 1, es, rfl, by omega, by omega, hf, rfl, hstart, rfl, rfl, rfl, rfl⟩, ?_⟩
  rintro aI bI R1 Φ1 n _ ⟨i, j, cur, rfl, rfl, hij, hj, hcl, htk, hdr, rfl, rfl, rfl⟩
  refine Br.intro (fun hlt => ?_) (fun hge => ?_)
  · have hlt : j < es.length := by have := of_decide_eq_true hlt; omega
    have hcj : cur[j]'(by omega) = es[j] := by
      have h := congrArg (fun l => l[0]?) hdr
      simp only [List.getElem?_drop, Nat.add_zero] at h
      rw [List.getElem?_eq_getElem (by omega), List.getElem?_eq_getElem hlt] at h
      exact Option.some.inj h
    have htj : es.take (j + 1) = es.take j ++ [es[j]] := List.take_succ_eq_append_getElem hlt
    have hdj : cur.drop (j + 1) = es.drop (j + 1) := by rw [← List.drop_drop, ← List.drop_drop, hdr]
    refine ⟨⟨by omega, by omega⟩, ptrK_intro g 0 rfl fun w G cx => ⟨(cur[j]'(by omega)).d.key, (cur[j]'(by omega)).d.val, by rw [Nat.zero_add, Int.toNat_natCast]; exact e_row cx (List.getElem?_eq_getElem (by omega)), fun b w G cx => ⟨hdf.ok, (hdf.go (cur[j]'(by omega)).d).use cx fun w cx => ⟨_, rfl, bufE (some ⟨g, 0, none⟩) cap cur :: S, Φ1, inferInstance, cx, Br.intro (fun hc => ?_) (fun hc => ?_)⟩⟩⟩⟩
    · have hk : (goneF f) es[j] = false := by rw [hcj] at hc; simpa using hc
      refine ⟨⟨by omega, by omega⟩, ptrK_intro g 0 rfl fun w G cx => ⟨by rw [Nat.zero_add, Int.toNat_natCast]; exact e_can cx (i := i) (by omega), fun w' hw' => ?_⟩⟩
      rw [Nat.zero_add, Int.toNat_natCast] at hw'
      have cx2 := e_put cx (i := i) (by omega) (cur[j]'(by omega)) hw'
      refine ⟨bufE (some ⟨g, 0, none⟩) cap (cur.set i (cur[j]'(by omega))) :: S, Φ1, inferInstance, cx2, by unfold I64; omega, by unfold I64; omega, _, Φ1, es.length - (j + 1), inferInstance, fun w G cx => cx, ⟨i + 1, j + 1, cur.set i (cur[j]'(by omega)), by omega, by omega, by omega, by omega, by rw [List.length_set]; exact hcl, ?_, ?_, rfl, rfl, rfl⟩, by omega⟩
      · rw [List.take_succ_eq_append_getElem (by rw [List.length_set]; omega), List.take_set_of_le (Nat.le_refl _), List.getElem_set_self, htk, htj, List.filter_append, List.filter_cons_of_pos (by rw [hk]; rfl), List.filter_nil, hcj]
      · rw [List.drop_set_of_lt (by omega)]; exact hdj
    · have hk : (goneF f) es[j] = true := by rw [hcj] at hc; simpa using hc
      refine ⟨by unfold I64; omega, _, Φ1, es.length - (j + 1), inferInstance, fun w G cx => cx, ⟨i, j + 1, cur, rfl, by omega, by omega, by omega, hcl, ?_, hdj, rfl, rfl, rfl⟩, by omega⟩
      rw [htj, List.filter_append, List.filter_cons_of_neg (by rw [hk]; simp), List.filter_nil, List.append_nil, htk]
  · have hge : j = es.length := by have := of_decide_eq_false hge; omega
    subst hge
    rw [List.take_length] at htk
    have hil : (es.filter fun x => !(goneF f) x).length = i := by rw [← htk, List.length_take]; omega
    refine ⟨⟨by omega, by omega, hnc⟩, fun w G cx => ?_⟩
    have cx1 : Ctx W w (bufE (some ⟨g, 0, none⟩) cap cur :: (S ++ G)) Φ1 := cx
    unfold bufE at cx1
    obtain ⟨w', hr, cx2⟩ := cx1.clearB rfl (ts := 74) (ty := 0) (kb := #[false]) (k := i) InsP_f.app (by kernel_rfl) (by omega) (by omega)
    rw [hcl] at hr
    rw [cellsE_take, htk] at cx2
    refine ⟨w', by rw [Int.toNat_natCast]; exact hr, bufE (some ⟨g, 0, none⟩) cap (es.filter fun x => !(goneF f) x) :: S, Φ1, inferInstance, by unfold bufE; rw [hil]; exact cx2, ⟨by omega, by omega⟩, fun w G cx => ?_⟩
    have := hK w cx.left
    rw [hil] at this
    rw [subPtr_zero, Int.toNat_natCast]
    exact this
abbrev goneE (x : PE) : Bool := goneF (fun y => decide (y.val = tE)) x
theorem there_fn {Φ : PW} [Stable Φ] : DelFn Φ F.store_there_1 #[] (fun y => decide (y.val = tE)) := ⟨by kernel_rfl, fun x => (there1_g x).in⟩
end Go.Proofs.YtebnciehcnedjaaGreatDoor
end

section
namespace Go.Proofs.YtebnciehcnedjaaGreatDoor
open Go.Vc
abbrev Szs (l : Run) : Prop := ∀ x ∈ l, x.key.size ≤ maxLen ∧ x.val.size ≤ maxLen
theorem sl_szs {M : List Nat} {w : World} {p : Option Addr} {l : Run} (h : Sl M w p l) : Szs l := fun x hx => by
  obtain ⟨j, hj, rfl⟩ := List.getElem_of_mem hx
  obtain ⟨b, o, cs, _, _, _, h4⟩ := h j hj
  exact (pair_cells h4).2
theorem freezeE {W w : World} {S : List Own} {Φ : PW} [Stable Φ] {p : Option Addr} {cap : Nat} {es : List PE} (cx : Ctx W w (bufE p cap es :: S) Φ) (hz : Szs (es.map PE.d)) :
    Ctx W w S (fun M w => Φ M w ∧ Sl M w p (es.map PE.d)) ∧ (es.map PE.d).length ≤ cap ∧ cap ≤ maxLen := by
  obtain ⟨c2, hs, e, h2, h3⟩ := Ctx.freeze (α := PairD) (l := es.map PE.d) cx (e_elems fun x hx => pair_rep (hz x.d (List.mem_map.2 ⟨x, hx, rfl⟩)))
  exact ⟨c2.add hs, by rw [← e]; exact h2, h3⟩
theorem Clone_use {W w : World} {S : List Own} {Φ : PW} [Stable Φ] {p : Option Addr} {cap : Nat} {l : Run} (hΦ : ∀ M w, Φ M w → Sl M w p l) (hl : l.length < 100000000) (cx : Ctx W w S Φ) {K : Ending → World → Prop}
    (hK : ∀ p' cap' w', Ctx W w' (bufE p' cap' (idxL 0 l) :: S) Φ → K (.returned (.slice p' l.length cap')) w') :
    Calls Tryz.prog F.slices_Clone_store_run_api_Pair #[.slice p l.length cap] w K := by
  have ht := (hΦ _ _ cx.phi).there
  refine (Bslices_Clone_store_run_api_Pair_run p l.length cap (J := fun u w' => K (.returned u) w') cx ?_).mono fun e w' ⟨v, he, hj⟩ => by rw [he]; exact hj
  refine Br.intro (fun hn => fun w G cx => ?_) (fun _ => fun k w G cx => ?_)
  · have h0 : l = [] := by
      rcases Nat.eq_zero_or_pos l.length with h | h
      · exact List.eq_nil_of_length_eq_zero h
      · obtain ⟨b, o, e⟩ := ht h
        rw [e] at hn
        cases hn
    subst h0
    have cx2 := Ctx.nobuf cx.left 69 2
    exact hK none 0 w cx2
  · obtain ⟨p', cap', w', cs, hr, cx2⟩ := Ctx.cloned (α := PairD) cx (ts := 74) (ty := 74) (kb := #[false, false]) (c2 := cap) InsP_f.app pair_one hΦ hl InsP_f.byt
    have e := elems_ex 0 cx2.phi.2
    subst e
    have cx3 := cx2.weak (Ψ := Φ) fun M w h => h.1
    refine ⟨p', _, cap', w', hr, .buf p' l.length cap' (cellsE (idxL 0 l)) 69 2 :: S, Φ, inferInstance, cx3, fun w G cx => hK p' cap' w ?_⟩
    unfold bufE
    rw [idxL_len]
    exact cx.left
theorem filter_there (es : List PE) : (es.filter fun x => !goneE x).map PE.d = thereP (es.map PE.d) := by
  unfold thereP
  rw [List.filter_map]
  congr 1
  refine List.filter_congr fun x _ => ?_
  show (!decide (x.d.val = tE)) = decide (x.d.val ≠ tE)
  rw [decide_not]
theorem there_sl {Φ : PW} [Stable Φ] {p : Option Addr} {cap : Nat} {l : Run} [hΦ : Has Φ (fun M w => Sl M w p l)] (hl : l.length < 100000000) : GivesSl Φ Tryz.prog F.store_there #[.slice p l.length cap] (thereP l) id := by
  refine gives_sl (Bstore_there_run p l.length cap) fun W R => fun w G cx => ?_
  have hz := sl_szs (hΦ.go _ _ cx.phi)
  refine Clone_use hΦ.go hl cx fun p' cap' w cx => ⟨p', _, cap', rfl, bufE p' cap' (idxL 0 l) :: R, Φ, inferInstance, cx, fun w G cx => ?_⟩
  rw [← idxL_len 0 l]
  refine Delete_use there_fn (idxL 0 l) (by rw [idxL_len]; omega) (p := p') (cap := cap') (S := R ++ G) (Φ := Φ) cx fun w cx => ⟨p', _, cap', rfl, bufE p' cap' ((idxL 0 l).filter fun x => !goneE x) :: R, Φ, inferInstance, cx, fun w G cx => ?_⟩
  have em : ((idxL 0 l).filter fun x => !goneE x).map PE.d = thereP l := by rw [filter_there, idxL_d]
  obtain ⟨c1, c2, c3⟩ := freezeE (S := R ++ G) cx (by rw [em]; exact fun x hx => hz x (List.mem_filter.1 hx).1)
  rw [em] at c1 c2
  refine ⟨p', cap', ?_, c2, c3, c1.left⟩
  have el : ((idxL 0 l).filter fun x => !goneE x).length = (thereP l).length := by rw [← em, List.length_map]
  rw [el]
  rfl
def cmpAE : ByteArray → List PE → List PE
  | _, [] => []
  | p, y :: l => if y.d.key = p then cmpAE y.d.key l else y :: cmpAE y.d.key l
def compE : List PE → List PE
  | [] => []
  | x :: l => x :: cmpAE x.d.key l
theorem cmpAE_map : ∀ (l : List PE) (p : ByteArray), (cmpAE p l).map PE.d = cmpA p (l.map PE.d)
  | [], _ => rfl
  | y :: l, p => by
    show (if y.d.key = p then cmpAE y.d.key l else y :: cmpAE y.d.key l).map PE.d = if y.d.key = p then cmpA y.d.key (l.map PE.d) else y.d :: cmpA y.d.key (l.map PE.d)
    split
    · exact cmpAE_map l _
    · rw [List.map_cons, cmpAE_map l]
theorem compE_map : ∀ l : List PE, (compE l).map PE.d = compK (l.map PE.d)
  | [] => rfl
  | x :: l => by
    show x.d :: (cmpAE x.d.key l).map PE.d = x.d :: cmpA x.d.key (l.map PE.d)
    rw [cmpAE_map]
theorem cmpAE_snoc (x : PE) : ∀ (l : List PE) (p : ByteArray), cmpAE p (l ++ [x]) = if ((l.getLast?.map fun y => y.d.key).getD p) = x.d.key then cmpAE p l else cmpAE p l ++ [x]
  | [], p => by
    show (if x.d.key = p then [] else [x]) = if p = x.d.key then [] else [x]
    by_cases h : p = x.d.key
    · rw [if_pos h, if_pos h.symm]
    · rw [if_neg h, if_neg fun e => h e.symm]
  | y :: l, p => by
    have ih := cmpAE_snoc x l y.d.key
    have e : (((y :: l).getLast?.map fun y => y.d.key).getD p) = ((l.getLast?.map fun y => y.d.key).getD y.d.key) := by
      rw [List.getLast?_cons]
      cases l.getLast? <;> rfl
    rw [e]
    show (if y.d.key = p then cmpAE y.d.key (l ++ [x]) else y :: cmpAE y.d.key (l ++ [x])) = if _ then (if y.d.key = p then cmpAE y.d.key l else y :: cmpAE y.d.key l) else (if y.d.key = p then cmpAE y.d.key l else y :: cmpAE y.d.key l) ++ [x]
    rw [ih]
    by_cases h1 : y.d.key = p
    · rw [if_pos h1, if_pos h1]
    · rw [if_neg h1, if_neg h1]
      split
      · rfl
      · rfl
theorem compE_snoc (x : PE) : ∀ l : List PE, 0 < l.length → compE (l ++ [x]) = if (l.getLast?.map fun y => y.d.key) = some x.d.key then compE l else compE l ++ [x]
  | [], h => by simp at h
  | y :: l, _ => by
    have e : ((y :: l).getLast?.map fun y => y.d.key) = some ((l.getLast?.map fun y => y.d.key).getD y.d.key) := by
      rw [List.getLast?_cons]
      cases l.getLast? <;> rfl
    show y :: cmpAE y.d.key (l ++ [x]) = _
    rw [cmpAE_snoc, e]
    by_cases h : ((l.getLast?.map fun y => y.d.key).getD y.d.key) = x.d.key
    · rw [if_pos h, if_pos (by rw [h])]; rfl
    · rw [if_neg h, if_neg fun h2 => h (Option.some.inj h2)]; rfl
theorem comp_step {es : List PE} {k : Nat} (h0 : 0 < k) (hk : k < es.length) : compE (es.take (k + 1)) = if (es[k]'hk).d.key = (es[k - 1]'(by omega)).d.key then compE (es.take k) else compE (es.take k) ++ [es[k]'hk] := by
  rw [List.take_succ_eq_append_getElem hk, compE_snoc _ _ (by rw [List.length_take]; omega)]
  have e : (es.take k).getLast? = some (es[k - 1]'(by omega)) := by
    obtain ⟨m, rfl⟩ : ∃ m, k = m + 1 := ⟨k - 1, by omega⟩
    rw [List.take_succ_eq_append_getElem (by omega), List.getLast?_concat]
    rfl
  have e2 : Option.map (fun y : PE => y.d.key) (some (es[k - 1]'(by omega))) = some (es[k - 1]'(by omega)).d.key := rfl
  rw [e, e2]
  by_cases h : (es[k]'hk).d.key = (es[k - 1]'(by omega)).d.key
  · rw [if_pos h, if_pos (by rw [h])]
  · rw [if_neg h, if_neg fun h2 => h (Option.some.inj h2).symm]
theorem comp_one {es : List PE} (h : es.length < 2) : compE es = es := by
  match es, h with
  | [], _ => rfl
  | [x], _ => rfl
end Go.Proofs.YtebnciehcnedjaaGreatDoor
end

section
namespace Go.Proofs.YtebnciehcnedjaaGreatDoor
open Go.Vc
set_option maxHeartbeats 4000000 in
theorem Compact_use {W w : World} {S : List Own} {Φ : PW} [Stable Φ] {p : Option Addr} {cap : Nat} (es : List PE) (hl : es.length ≤ 100000000) (cx : Ctx W w (bufE p cap es :: S) Φ) {K : Ending → World → Prop}
    (hK : ∀ w', Ctx W w' (bufE p cap (compE es) :: S) Φ → K (.returned (.slice p (compE es).length cap)) w') :
    Calls Tryz.prog F.slices_CompactFunc_api_Pair_api_Pair #[.slice p es.length cap, .func (.func F.store_merge_2) #[] #[]] w K := by
  refine (Bslices_CompactFunc_api_Pair_api_Pair_run p es.length cap F.store_merge_2 #[] (J := fun u w' => K (.returned u) w') cx ?_).mono fun e w' ⟨v, he, hj⟩ => by rw [he]; exact hj
  have hp : 0 < es.length → ∃ g, p = some ⟨g, 0, none⟩ := fun h => e_ptr cx h
  obtain ⟨_, hnc, hcm⟩ := cx.bufLen 0 rfl
  clear cx
  refine Br.intro (fun h2 => fun w G cx => ?_) (fun h2 => ?_)
  · have h2 : es.length < 2 := by have := of_decide_eq_true h2; omega
    rw [comp_one h2] at hK
    exact hK w cx.left
  have h2 : 2 ≤ es.length := by have := of_decide_eq_false h2; omega
  obtain ⟨g, hg⟩ := hp (by omega)
  subst hg
  refine exI_mk (fun kI R' Φ' n => ∃ k : Nat, kI = k ∧ 1 ≤ k ∧ k ≤ es.length ∧ compE (es.take k) = es.take k ∧ R' = bufE (some ⟨g, 0, none⟩) cap es :: S ∧ Φ' = Φ ∧ n = es.length - k)
    ⟨⟨_, Φ, _, inferInstance, fun w G cx => cx, 1, rfl, by omega, by omega, comp_one (by rw [List.length_take]; omega), rfl, rfl, rfl⟩, ?_⟩
  rintro kI R1 Φ1 n _ ⟨k, rfl, hk1, hkl, hck, rfl, rfl, rfl⟩
  refine Br.intro (fun hlt => ?_) (fun hge => fun w G cx => ?_)
  rotate_left
  · have hge : k = es.length := by have := of_decide_eq_false hge; omega
    subst hge
    rw [List.take_length] at hck
    rw [hck] at hK
    exact hK w cx.left
  have hlt : k < es.length := by have := of_decide_eq_true hlt; omega
  have tk : ((k : Int)).toNat = k := Int.toNat_natCast k
  have tk1 : ((k : Int) - 1).toNat = k - 1 := by omega
  have hst := comp_step (by omega) hlt
  refine ⟨bufE (some ⟨g, 0, none⟩) cap es :: S, Φ1, inferInstance, fun w G cx => cx, ⟨by omega, by omega⟩, ptrK_intro g 0 rfl ⟨by unfold I64; omega, es[k].d.key, es[k].d.val, fun w G cx => ⟨_, _, by rw [Nat.zero_add, tk]; exact e_row cx (List.getElem?_eq_getElem hlt), rfl⟩, ⟨by omega, by omega⟩, ptrK_intro g 0 rfl ⟨es[k - 1].d.key, es[k - 1].d.val, fun w G cx => ⟨_, _, by rw [Nat.zero_add, tk1]; exact e_row cx (List.getElem?_eq_getElem (by omega)), rfl⟩, fun w G cx => ⟨by kernel_rfl, (merge2_g es[k].d es[k - 1].d).use cx fun w cx => ⟨_, rfl, bufE (some ⟨g, 0, none⟩) cap es :: S, Φ1, inferInstance, cx, Br.intro (fun hc => ?_) (fun hc => ?_)⟩⟩⟩⟩⟩
  rotate_left
  · have hc := of_decide_eq_false hc
    rw [if_neg hc] at hst
    exact ⟨by unfold I64; omega, _, Φ1, es.length - (k + 1), inferInstance, fun w G cx => cx, ⟨k + 1, by omega, by omega, by omega, by rw [hst, hck, List.take_succ_eq_append_getElem hlt], rfl, rfl, rfl⟩, by omega⟩
  have hc := of_decide_eq_true hc
  rw [if_pos hc, hck] at hst
  rw [tk, subPtr_at g 2 k cap (by omega)]
  refine ⟨⟨by omega, by omega, hnc⟩, ?_⟩
  refine exI_mk (fun aI bI R' Φ' n => ∃ (i j : Nat) (cur : List PE), aI = i ∧ bI = j ∧ 1 ≤ j ∧ k + j ≤ es.length ∧ i ≤ k + j - 1 ∧ cur.length = es.length ∧ cur.take i = compE (es.take (k + j)) ∧ cur.drop (k + j - 1) = es.drop (k + j - 1) ∧ R' = bufE (some ⟨g, 0, none⟩) cap cur :: S ∧ Φ' = Φ1 ∧ n = es.length - (k + j))
    ⟨⟨_, Φ1, _, inferInstance, fun w G cx => cx, k, 1, es, rfl, rfl, Nat.le_refl _, by omega, by omega, rfl, hst.symm, rfl, rfl, rfl, rfl⟩, ?_⟩
  rintro aI bI R2 Φ2 n2 _ ⟨i, j, cur, rfl, rfl, hj1, hjl, hij, hcl, htk, hdr, rfl, rfl, rfl⟩
  refine Br.intro (fun hlt2 => ?_) (fun hge2 => ?_)
  · have hlt2 : k + j < es.length := by have := of_decide_eq_true hlt2; omega
    have hat : ∀ q (h : q < es.length), k + j - 1 ≤ q → cur[q]? = some es[q] := fun q h hq => by
      have h5 := congrArg (fun l => l[q - (k + j - 1)]?) hdr
      simp only [List.getElem?_drop] at h5
      rw [show k + j - 1 + (q - (k + j - 1)) = q by omega, List.getElem?_eq_getElem h] at h5
      exact h5
    have tj : ((j : Int)).toNat = j := Int.toNat_natCast j
    have tj1 : ((j : Int) - 1).toNat = j - 1 := by omega
    have ti : ((i : Int)).toNat = i := Int.toNat_natCast i
    have o1 : k * 2 + j * 2 = (k + j) * 2 := by omega
    have o2 : k * 2 + (j - 1) * 2 = (k + j - 1) * 2 := by omega
    have hst2 := comp_step (es := es) (k := k + j) (by omega) hlt2
    have hdj : cur.drop (k + j) = es.drop (k + j) := by
      have := congrArg (List.drop 1) hdr
      rw [List.drop_drop, List.drop_drop, show k + j - 1 + 1 = k + j by omega] at this
      exact this
    refine ⟨bufE (some ⟨g, 0, none⟩) cap cur :: S, Φ2, inferInstance, fun w G cx => cx, ⟨by omega, by omega⟩, ptrK_intro g (k * 2) rfl ⟨by unfold I64; omega, es[k + j].d.key, es[k + j].d.val, fun w G cx => ⟨_, _, by rw [tj, o1]; exact e_row cx (hat (k + j) hlt2 (by omega)), rfl⟩, ⟨by omega, by omega⟩, ptrK_intro g (k * 2) rfl ⟨es[k + j - 1].d.key, es[k + j - 1].d.val, fun w G cx => ⟨_, _, by rw [tj1, o2]; exact e_row cx (hat (k + j - 1) (by omega) (Nat.le_refl _)), rfl⟩, fun w G cx => ⟨by kernel_rfl, (merge2_g es[k + j].d es[k + j - 1].d).use cx fun w cx => ⟨_, rfl, bufE (some ⟨g, 0, none⟩) cap cur :: S, Φ2, inferInstance, cx, Br.intro (fun hc => ?_) (fun hc => ?_)⟩⟩⟩⟩⟩
    · have hc : ¬ es[k + j].d.key = es[k + j - 1].d.key := by simpa using hc
      rw [if_neg hc] at hst2
      refine ⟨⟨by omega, by omega⟩, ptrK_intro g (k * 2) rfl fun w G cx => ⟨es[k + j].d.key, es[k + j].d.val, by rw [tj, o1]; exact e_row cx (hat (k + j) hlt2 (by omega)), ⟨by omega, by omega⟩, ptrK_intro g 0 rfl fun w G cx => ⟨by rw [Nat.zero_add, ti]; exact e_can cx (i := i) (by omega), fun w' hw' => ?_⟩⟩⟩
      rw [Nat.zero_add, ti] at hw'
      have cx2 := e_put cx (i := i) (by omega) es[k + j] hw'
      refine ⟨bufE (some ⟨g, 0, none⟩) cap (cur.set i es[k + j]) :: S, Φ2, inferInstance, cx2, by unfold I64; omega, by unfold I64; omega, _, Φ2, es.length - (k + (j + 1)), inferInstance, fun w G cx => cx, ⟨i + 1, j + 1, cur.set i es[k + j], by omega, by omega, by omega, by omega, by omega, by rw [List.length_set]; exact hcl, ?_, ?_, rfl, rfl, rfl⟩, by omega⟩
      · rw [List.take_succ_eq_append_getElem (by rw [List.length_set]; omega), List.take_set_of_le (Nat.le_refl _), List.getElem_set_self, htk, show k + (j + 1) = k + j + 1 by omega, hst2]
      · rw [show k + (j + 1) - 1 = k + j by omega, List.drop_set_of_lt (by omega)]; exact hdj
    · have hc : es[k + j].d.key = es[k + j - 1].d.key := by simpa using hc
      rw [if_pos hc] at hst2
      refine ⟨by unfold I64; omega, _, Φ2, es.length - (k + (j + 1)), inferInstance, fun w G cx => cx, ⟨i, j + 1, cur, rfl, by omega, by omega, by omega, by omega, hcl, ?_, ?_, rfl, rfl, rfl⟩, by omega⟩
      · rw [show k + (j + 1) = k + j + 1 by omega, hst2]; exact htk
      · rw [show k + (j + 1) - 1 = k + j by omega]; exact hdj
  · have hge2 : k + j = es.length := by have := of_decide_eq_false hge2; omega
    rw [hge2, List.take_length] at htk
    have hil : (compE es).length = i := by rw [← htk, List.length_take]; omega
    refine ⟨⟨by omega, by omega, hnc⟩, fun w G cx => ?_⟩
    have cx1 : Ctx W w (bufE (some ⟨g, 0, none⟩) cap cur :: (S ++ G)) Φ2 := cx
    unfold bufE at cx1
    obtain ⟨w', hr, cx2⟩ := cx1.clearB rfl (ts := 48) (ty := 0) (kb := #[false]) (k := i) (bytes := 32) (by kernel_rfl) (by kernel_rfl) (by omega) (by omega)
    rw [hcl] at hr
    rw [cellsE_take, htk] at cx2
    refine ⟨w', by rw [Int.toNat_natCast]; exact hr, bufE (some ⟨g, 0, none⟩) cap (compE es) :: S, Φ2, inferInstance, by unfold bufE; rw [hil]; exact cx2, ⟨by omega, by omega⟩, fun w G cx => ?_⟩
    have := hK w cx.left
    rw [hil] at this
    rw [subPtr_zero, Int.toNat_natCast]
    exact this
end Go.Proofs.YtebnciehcnedjaaGreatDoor
end

section
namespace Go.Vc
theorem bi_append_tv {P : Program} {w : World} {ts tv ty t u : TypeId} {i : TypeInfo} {kb : Array Bool} {p : Option Addr} {n c : Nat} {x : Value} (h1 : P.underlying ts = some (.slice t)) (h2 : P.underlying tv = some (.slice u)) (hi : P.info? t = some i) :
    Sem.run P (builtin Builtin.append #[ts, tv] ty kb #[.slice p n c, x]) w = Sem.run P (builtin Builtin.append #[ts, ts] ty kb #[.slice p n c, x]) w := by
  unfold builtin
  simp only [Sem.run_bind]
  rw [append_tv h1 h2 hi]
section
variable {W w : World} {S : List Own} {Φ : PW}
theorem Ctx.appAnyV [Stable Φ] {P : Program} {α : Type} [Gv α] {q : Option Addr} {l : List α} {c2 : Nat} {p : Option Addr} {n cap : Nat} {cs : List Value} {t : TypeId} {bytes : Nat} (c : Ctx W w (.buf p n cap cs t (Gv.ty α).size :: S) Φ)
    {ts tv ty u : TypeId} {kb : Array Bool} (hb : appB P ts t (Gv.ty α).size bytes = true) (hv : P.underlying tv = some (.slice u)) (h1 : ∀ M w cs (x : α), Gv.rep M w cs x → (cs.all fun u => oneC u) = true) (hsl : ∀ M w, Φ M w → Sl M w q l) (hlen : n + l.length < 100000000) (hbytes : bytes ≤ 1000) :
    ∃ p' cap' w' news, Sem.run P (builtin Builtin.append #[ts, tv] ty kb #[.slice p n cap, .slice q l.length c2]) w = .ok (.value (.slice p' (n + l.length) cap')) w' ∧
      Ctx W w' (.buf p' (n + l.length) cap' (cs ++ news) t (Gv.ty α).size :: S) (fun M w => Φ M w ∧ Elems M w news l) := by
  obtain ⟨i, z, e1, e2, e3, e4, e5, e6⟩ := appB_out hb
  rw [bi_append_tv e1 hv e2]
  rcases Nat.eq_zero_or_pos l.length with h0 | h0
  · have hl : l = [] := List.eq_nil_of_length_eq_zero h0
    subst hl
    refine ⟨p, cap, w, [], run_app (c.append0 0 rfl e1 e2 q c2), ?_⟩
    rw [List.append_nil]
    exact c.add Elems.nil
  · obtain ⟨p', cap', w', news, h2, _, c3⟩ := c.appSl (ty := ty) (kb := kb) (c2 := c2) hb h1 hsl h0 hlen hbytes
    exact ⟨p', cap', w', news, h2, c3⟩
end
end Go.Vc
namespace Go.Proofs.YtebnciehcnedjaaGreatDoor
open Go.Vc
theorem pin_rs {M : List Nat} {w : World} {g o : Nat} {cs : List (List Value)} {ls : List Run} (h : Pin g o cs ls M w) {j : Nat} (hj : j < ls.length) : ∃ p c, cs.getD j [] = [.slice p ls[j].length c] ∧ ls[j].length ≤ c ∧ c ≤ maxLen := by
  obtain ⟨_, h1, h2⟩ := h j hj
  obtain ⟨p, c, e, g1, g2, _⟩ := rep_list.1 h2
  exact ⟨p, c, e, g1, g2⟩
theorem pin_rsSl {M : List Nat} {w : World} {g o : Nat} {cs : List (List Value)} {ls : List Run} (h : Pin g o cs ls M w) {j : Nat} (hj : j < ls.length) {p : Option Addr} {c : Nat} (e : cs.getD j [] = [.slice p ls[j].length c]) : Sl M w p ls[j] := by
  obtain ⟨_, h1, h2⟩ := h j hj
  obtain ⟨p', c', e', g1, g2, hs⟩ := rep_list.1 h2
  rw [e] at e'
  simp only [List.cons.injEq, Value.slice.injEq] at e'
  rw [e'.1.1]
  exact hs
theorem pin_rsAt {M : List Nat} {w : World} {g o : Nat} {cs : List (List Value)} {ls : List Run} (h : Pin g o cs ls M w) {j : Nat} (hj : j < ls.length) {p : Option Addr} {c : Nat} (e : cs.getD j [] = [.slice p ls[j].length c]) : w.cell? ⟨g, o + j, none⟩ = some (.slice p ls[j].length c) := by
  obtain ⟨_, h1, h2⟩ := h j hj
  rw [e] at h1
  have := h1 0 (by simp)
  rw [show (Gv.ty Run).size = 1 from rfl, Nat.mul_one] at this
  simpa using this
theorem pin_szs {M : List Nat} {w : World} {g o : Nat} {cs : List (List Value)} {ls : List Run} (h : Pin g o cs ls M w) : Szs ls.flatten := fun x hx => by
  obtain ⟨r, hr, hx⟩ := List.mem_flatten.1 hx
  obtain ⟨j, hj, rfl⟩ := List.getElem_of_mem hr
  obtain ⟨p, c, e, _⟩ := pin_rs h hj
  exact sl_szs (pin_rsSl h hj e) x hx
theorem idxL_app : ∀ (n : Nat) (a b : Run), idxL n (a ++ b) = idxL n a ++ idxL (n + a.length) b
  | n, [], b => by simp [idxL]
  | n, x :: a, b => by
    show ⟨x, n⟩ :: idxL (n + 1) (a ++ b) = ⟨x, n⟩ :: (idxL (n + 1) a ++ idxL (n + (a.length + 1)) b)
    rw [idxL_app (n + 1) a b, show n + 1 + a.length = n + (a.length + 1) by omega]
theorem fl_take (ls : List Run) {i : Nat} (h : i < ls.length) : (ls.take (i + 1)).flatten = (ls.take i).flatten ++ ls[i] := by
  rw [List.take_succ_eq_append_getElem h, List.flatten_append]
  simp
theorem fl_le (ls : List Run) (i : Nat) : (ls.take i).flatten.length ≤ ls.flatten.length := by
  have h : ls.flatten = (ls.take i).flatten ++ (ls.drop i).flatten := by rw [← List.flatten_append, List.take_append_drop]
  rw [h, List.length_append]
  omega
set_option maxHeartbeats 2000000 in
theorem merge_sl {Φ : PW} [Stable Φ] {lp : Option Addr} {lc : Nat} {rs : List Run} [hΦ : Has Φ (fun M w => Sl M w lp rs)] (hr : rs.length ≤ 1000000) (hl : rs.flatten.length < 50000000) : GivesSl Φ Tryz.prog F.store_merge #[.slice lp rs.length lc] (normK rs.flatten) id := by
  refine GivesSl.pinned hΦ.go fun g o cs hlp => ?_
  refine gives_sl (Bstore_merge_run lp rs.length lc) fun W R => ?_
  refine exI_mk (fun p n cap iI R' Φ' k => ∃ i : Nat, iI = i ∧ i ≤ rs.length ∧ n = (idxL 0 (rs.take i).flatten).length ∧ R' = bufE p cap (idxL 0 (rs.take i).flatten) :: R ∧ Φ' = (fun M w => Φ M w ∧ Pin g o cs rs M w) ∧ k = rs.length - i)
    ⟨⟨bufE none 0 (idxL 0 (rs.take 0).flatten) :: R, _, _, inferInstance, fun w G cx => cx.nobuf 69 2, 0, rfl, Nat.zero_le _, rfl, rfl, rfl, rfl⟩, ?_⟩
  rintro p n cap iI R1 Φ1 k _ ⟨i, rfl, hi, rfl, rfl, rfl, rfl⟩
  have hfl := fl_le rs i
  refine Br.intro (fun hlt => ?_) (fun hge => fun w G cx => ?_)
  · have hlt : i < rs.length := by have := of_decide_eq_true hlt; omega
    have hlp := hlp (by omega)
    have hft := fl_take rs hlt
    have hfl2 := fl_le rs (i + 1)
    rw [hft, List.length_append] at hfl2
    refine ⟨⟨by omega, by omega⟩, ptrK_intro g o hlp fun w G cx => ?_⟩
    obtain ⟨q, c, e, g1, g2⟩ := pin_rs cx.phi.2 hlt
    refine ⟨q, rs[i].length, c, by rw [Int.toNat_natCast]; exact pin_rsAt cx.phi.2 hlt e, fun w G cx => ?_⟩
    obtain ⟨p', cap', w', news, hr2, cx2⟩ := Ctx.appAnyV (α := PairD) (S := R ++ G) cx (P := Tryz.prog) (ts := 48) (tv := 74) (ty := 48) (u := 69) (kb := #[false, false]) (bytes := 32) (c2 := c) (by kernel_rfl) (by kernel_rfl) pair_one (fun M w h => pin_rsSl h.2 hlt e) (by rw [idxL_len]; omega) (by omega)
    have en := elems_ex (rs.take i).flatten.length cx2.phi.2
    subst en
    have cx3 := cx2.weak (Ψ := fun M w => Φ M w ∧ Pin g o cs rs M w) fun M w h => h.1
    have ec : cellsE (idxL 0 (rs.take i).flatten) ++ cellsE (idxL (rs.take i).flatten.length rs[i]) = cellsE (idxL 0 (rs.take (i + 1)).flatten) := by
      rw [← cellsE_app, hft, idxL_app, Nat.zero_add]
    have el : (idxL 0 (rs.take i).flatten).length + rs[i].length = (idxL 0 (rs.take (i + 1)).flatten).length := by
      rw [idxL_len, idxL_len, hft, List.length_append]
    rw [ec, el] at cx3
    rw [el] at hr2
    exact ⟨p', _, cap', w', hr2, bufE p' cap' (idxL 0 (rs.take (i + 1)).flatten) :: R, _, inferInstance, cx3, by unfold I64; omega, _, _, rs.length - (i + 1), inferInstance, fun w G cx => cx, ⟨i + 1, by omega, by omega, rfl, rfl, rfl, rfl⟩, by omega⟩
  · have hge : i = rs.length := by have := of_decide_eq_false hge; omega
    subst hge
    rw [List.take_length] at cx ⊢
    have hcf : CmpFn (fun M w => Φ M w ∧ Pin g o cs rs M w) F.store_merge_1 #[] (fun _ => True) := ⟨by kernel_rfl, fun x y _ _ => (merge1_g x.d y.d).in⟩
    refine SortStable_use hcf (idxL 0 rs.flatten) (fun _ _ => trivial) ((idxL_asc 0 rs.flatten).imp fun h => Nat.le_of_lt h) (S := R ++ G) cx (by rw [idxL_len]; omega) fun es w hperm hasc cx => ⟨rfl, bufE p cap es :: R, _, inferInstance, cx, fun w G cx => ?_⟩
    have hes : es.length = (idxL 0 rs.flatten).length := hperm.length_eq
    have hm := merged hperm hasc
    rw [← hes]
    refine Compact_use es (by rw [hes, idxL_len]; omega) (S := R ++ G) cx fun w cx => ⟨p, _, cap, rfl, bufE p cap (compE es) :: R, _, inferInstance, cx, fun w G cx => ?_⟩
    have em : (compE es).map PE.d = normK rs.flatten := by rw [compE_map, hm]
    obtain ⟨c1, c2, c3⟩ := freezeE (S := R ++ G) cx (by rw [em]; exact fun x hx => pin_szs cx.phi.2 x (normK_mem x hx))
    rw [em] at c1 c2
    refine ⟨p, cap, ?_, c2, c3, c1.left⟩
    have el : (compE es).length = (normK rs.flatten).length := by rw [← em, List.length_map]
    rw [el]
    rfl
end Go.Proofs.YtebnciehcnedjaaGreatDoor
end

section
namespace Go.Vc
theorem elems_oneC {α : Type} [Gv α] (h1 : ∀ M w cs (x : α), Gv.rep M w cs x → (cs.all fun u => oneC u) = true) {M : List Nat} {w : World} {ds : List Value} {l : List α} (h : Elems M w ds l) : ∀ u ∈ ds, oneC u = true := by
  intro u hu
  obtain ⟨k, hk, rfl⟩ := List.getElem_of_mem hu
  have hs : 0 < (Gv.ty α).size := Gv.pos
  have hl := h.1
  have hj : k / (Gv.ty α).size < l.length := Nat.div_lt_of_lt_mul (by rw [Nat.mul_comm, ← hl]; exact hk)
  have h2 := h1 _ _ _ _ (h.2 _ hj)
  have hm : k % (Gv.ty α).size < (Gv.ty α).size := Nat.mod_lt _ hs
  have hdm : k / (Gv.ty α).size * (Gv.ty α).size + k % (Gv.ty α).size = k := by rw [Nat.mul_comm]; exact Nat.div_add_mod _ _
  refine List.all_eq_true.1 h2 _ ?_
  rw [List.mem_iff_getElem?]
  refine ⟨k % (Gv.ty α).size, ?_⟩
  rw [List.getElem?_take_of_lt hm, List.getElem?_drop, hdm, List.getElem?_eq_getElem hk]
end Go.Vc
namespace Go.Proofs.YtebnciehcnedjaaGreatDoor
open Go.Vc
theorem ow_there : (Tryz.prog.funcs[109]?).isSome = true := by kernel_rfl
theorem InsR_f : InsF Tryz.prog 1 84 84 3 74 24 109 :=
  ⟨by kernel_rfl, by kernel_rfl, by kernel_rfl, by omega, by omega, ⟨(Tryz.prog.funcs[109]?).get ow_there, 4, (Option.some_get ow_there).symm, by kernel_rfl, by kernel_rfl, by kernel_rfl, by kernel_rfl⟩⟩
theorem run_one (M : List Nat) (w : World) (cs : List Value) (x : Run) (h : Gv.rep M w cs x) : (cs.all fun u => oneC u) = true := by
  obtain ⟨p, c, rfl, _⟩ := rep_list.1 h
  rfl
structure LB where
  p : Option Addr
  c : Nat
  ds : List Value
  l : Lev
abbrev LB.own (x : LB) : Own := .buf x.p x.l.length x.c x.ds 74 1
abbrev LB.cell (x : LB) : Value := .slice x.p x.l.length x.c
def LBE (bs : List LB) : PW := fun M w => ∀ x ∈ bs, Elems M w x.ds x.l
instance instStableLBE (bs : List LB) : Stable (LBE bs) := ⟨fun hs h x hx => Stable.step (Φ := fun M w => Elems M w x.ds x.l) hs (h x hx)⟩
def nilB : LB := ⟨none, 0, [], []⟩
theorem InsertR_use {W w : World} {S : List Own} {Φ : PW} [Stable Φ] {x : LB} {vb : Nat} {tvb : TypeId} {v : Value} (hv : oneC v = true) (hE : Elems (dom (x.own :: .blk vb [v] tvb :: S)) w x.ds x.l) (hn : x.l.length ≤ 100000) (cx : Ctx W w (x.own :: .blk vb [v] tvb :: S) Φ) {K : Ending → World → Prop}
    (hK : ∀ p' cap' w', Ctx W w' (.buf p' (x.l.length + 1) cap' (v :: x.ds) 74 1 :: .blk vb [v] tvb :: S) Φ → K (.returned (.slice p' (x.l.length + 1) cap')) w') :
    Calls Tryz.prog F.slices_Insert_store_run_store_run #[.slice x.p x.l.length x.c, .int .i64 0, .slice (some ⟨vb, 0, none⟩) 1 1] w K := by
  obtain ⟨hcl, hnc, hcm⟩ := cx.bufLen 0 rfl
  have h : insB Tryz.prog 1 84 84 3 109 F.slices_rotateRight_store_run x.p x.l.length x.c ((0 : Nat) : Int) (some ⟨vb, 0, none⟩) 1 1 W (x.own :: .blk vb [v] tvb :: S) Φ (fun u w' => K (.returned u) w') :=
    insB_one InsR_f (Nat.zero_le _) (vs := [v]) (tvb := tvb) (S := S) rfl (by intro u hu; rcases List.mem_cons.1 hu with rfl | hu; exact hv; cases hu) (elems_oneC run_one hE) hn hnc hcm (fun h => by
      obtain ⟨g, hg, _⟩ := cx.bufCell 0 rfl (by omega)
      exact ⟨g, hg⟩) hcl fun p' cap' w G cx2 => by
      refine hK p' cap' w ?_
      rw [Nat.zero_mul, List.take_zero, List.drop_zero, List.nil_append] at cx2
      exact cx2.left
  have h2 : Bslices_Insert_store_run_store_run x.p x.l.length x.c ((0 : Nat) : Int) (some ⟨vb, 0, none⟩) 1 1 W (x.own :: .blk vb [v] tvb :: S) Φ (fun u w' => K (.returned u) w') := by
    unfold Bslices_Insert_store_run_store_run
    unfold insB at h
    exact h
  exact (Bslices_Insert_store_run_store_run_run x.p x.l.length x.c ((0 : Nat) : Int) (some ⟨vb, 0, none⟩) 1 1 (J := fun u w' => K (.returned u) w') cx h2).mono fun e w' ⟨v, he, hj⟩ => by rw [he]; exact hj
def addAt : Nat → List Lev → Run → List Lev
  | 0, ls, r => addL ls r
  | i + 1, [], r => [] :: addAt i [] r
  | i + 1, l :: t, r => l :: addAt i t r
theorem addAt_nil : ∀ (i : Nat) (r : Run), addAt i [] r = List.replicate i [] ++ [if r = [] then [] else [r]]
  | 0, r => rfl
  | i + 1, r => by
    show [] :: addAt i [] r = _
    rw [addAt_nil i r, List.replicate_succ]
    rfl
theorem addAt_eq : ∀ (i : Nat) (ls : List Lev) (r : Run), addAt i ls r = if r = [] then ls ++ List.replicate (i + 1 - ls.length) [] else (ls ++ List.replicate (i + 1 - ls.length) []).set i (r :: ((ls ++ List.replicate (i + 1 - ls.length) []).getD i []))
  | 0, [], r => by
    show [if r = [] then [] else [r]] = _
    split <;> rfl
  | 0, l :: t, r => by
    show (if r = [] then l else r :: l) :: t = _
    have e : 0 + 1 - (l :: t).length = 0 := by rw [List.length_cons]; omega
    rw [e, List.replicate_zero, List.append_nil]
    split <;> rfl
  | i + 1, [], r => by
    have ih := addAt_eq i [] r
    show [] :: addAt i [] r = _
    rw [ih]
    simp only [List.nil_append, List.length_nil, Nat.sub_zero, List.replicate_succ]
    split <;> rfl
  | i + 1, l :: t, r => by
    have ih := addAt_eq i t r
    show l :: addAt i t r = _
    rw [ih, show i + 1 + 1 - (l :: t).length = i + 1 - t.length by rw [List.length_cons]; omega]
    split <;> rfl
end Go.Proofs.YtebnciehcnedjaaGreatDoor
end

section
namespace Go.Proofs.YtebnciehcnedjaaGreatDoor
open Go.Vc
theorem elems_cons {M : List Nat} {w : World} {v : Value} {r : Run} {ds : List Value} {l : Lev} (h0 : Gv.rep M w [v] r) (h : Elems M w ds l) : Elems M w (v :: ds) (r :: l) := by
  have hs : (Gv.ty Run).size = 1 := rfl
  have hl := h.1
  rw [hs] at hl
  refine ⟨by rw [hs, List.length_cons, List.length_cons, hl]; omega, fun j hj => ?_⟩
  rw [hs]
  cases j with
  | zero => exact h0
  | succ j =>
    have := h.2 j (by simpa using hj)
    rw [hs] at this
    rw [Nat.mul_one] at this ⊢
    exact this
abbrev stA (sb : Nat) (tS : TypeId) (a : Value) (lp : Option Addr) (lc : Nat) (c d e : Value) (bs : List LB) (S : List Own) : List Own :=
  .blk sb [a, .slice lp bs.length lc, c, d, e] tS :: .buf lp bs.length lc (bs.map LB.cell) 84 1 :: (bs.map LB.own ++ S)
set_option maxHeartbeats 4000000 in
theorem add_use {W w : World} {S : List Own} {Φ : PW} [Stable Φ] {sb : Nat} {tS : TypeId} {a c d e : Value} {lp : Option Addr} {lc : Nat} {bs : List LB} {i : Nat} {rp : Option Addr} {rc : Nat} {r : Run} [hR : Has Φ (fun M w => Sl M w rp r)] (hr1 : r.length ≤ rc) (hr2 : rc ≤ maxLen) (hi : i ≤ 1000) (hb : bs.length ≤ 1000) (hlv : ∀ x ∈ bs, x.l.length ≤ 1000)
    (cx : Ctx W w (stA sb tS a lp lc c d e bs S) (fun M w => Φ M w ∧ LBE bs M w)) {K : Ending → World → Prop}
    (hK : ∀ lp' lc' bs' w', bs'.map LB.l = addAt i (bs.map LB.l) r → Ctx W w' (stA sb tS a lp' lc' c d e bs' S) (fun M w => Φ M w ∧ LBE bs' M w) → K (.returned (.tuple #[])) w') :
    Calls Tryz.prog F.store_Store_add #[.pointer (some ⟨sb, 0, none⟩), .int .i64 i, .slice rp r.length rc] w K := by
  refine (Bstore_Store_add_run sb 0 i rp r.length rc (J := fun u w' => K (.returned u) w') cx ?_).mono fun e w' ⟨v, he, hj⟩ => by rw [he]; exact hj
  clear cx
  refine exI_mk (fun R' Φ' k => ∃ (lq : Option Addr) (ld m : Nat), (m = 0 ∨ bs.length + m ≤ i + 1) ∧ R' = stA sb tS a lq ld c d e (bs ++ List.replicate m nilB) S ∧ Φ' = (fun M w => Φ M w ∧ LBE (bs ++ List.replicate m nilB) M w) ∧ k = i + 1 - (bs.length + m))
    ⟨⟨_, _, _, inferInstance, fun w G cx => cx, lp, lc, 0, .inl rfl, by rw [List.replicate_zero, List.append_nil], by rw [List.replicate_zero, List.append_nil], rfl⟩, ?_⟩
  rintro R1 Φ1 k hst1 ⟨lq, ld, m, hm, rfl, rfl, rfl⟩
  obtain ⟨B, hB⟩ : ∃ B, bs ++ List.replicate m nilB = B := ⟨_, rfl⟩
  have hBl : B.length = bs.length + m := by rw [← hB, List.length_append, List.length_replicate]
  rw [hB] at hst1 ⊢
  have hBx : ∀ x ∈ B, x.l.length ≤ 1000 := fun x hx => by
    rw [← hB] at hx
    rcases List.mem_append.1 hx with hx | hx
    · exact hlv x hx
    · rw [(List.mem_replicate.1 hx).2]; exact Nat.zero_le _
  have hBm : B.map LB.l = bs.map LB.l ++ List.replicate m [] := by
    rw [← hB, List.map_append, List.map_replicate]
    rfl
  refine fun w G cx => ⟨lq, B.length, ld, cx.get 0 rfl rfl, Br.intro (fun hle => ?_) (fun hgt => ?_)⟩
  · have hle : B.length ≤ i := by have := of_decide_eq_true hle; omega
    clear cx
    refine fun w G cx => ⟨lq, B.length, ld, cx.get 0 rfl rfl, fun k w G cx => ?_⟩
    have cx1 : Ctx W w (Own.blk k [Value.slice none 0 0] 84 :: Own.buf lq B.length ld (B.map LB.cell) 84 1 :: Own.blk sb [a, .slice lq B.length ld, c, d, e] tS :: (B.map LB.own ++ S ++ G)) (fun M w => Φ M w ∧ LBE B M w) := cx.perm (List.Perm.cons _ (List.Perm.swap _ _ _))
    obtain ⟨p', cap', w', hr, _, cx2⟩ := cx1.app1 (ts := 75) (ty := 75) (kb := #[false, false]) (bytes := 24) (P := Tryz.prog) (by kernel_rfl) (by omega) rfl rfl (by omega) (by omega)
    refine ⟨p', _, cap', w', hr, Own.blk sb [a, .slice lq B.length ld, c, d, e] tS :: Own.buf p' (B.length + 1) cap' (B.map LB.cell ++ [Value.slice none 0 0]) 84 1 :: (B.map LB.own ++ S), _, hst1, cx2.swap, fun w G cx => ⟨cx.can 0 rfl (by show 0 + 1 + 1 ≤ 5; omega), fun w' hw' => ?_⟩⟩
    have cx4 := cx.put 0 hw' rfl
    refine ⟨Own.blk sb [a, .slice p' (B.length + 1) cap', c, d, e] tS :: Own.buf p' (B.length + 1) cap' (B.map LB.cell ++ [Value.slice none 0 0]) 84 1 :: (B.map LB.own ++ S), _, hst1, cx4, stA sb tS a p' cap' c d e (bs ++ List.replicate (m + 1) nilB) S, _, _, instStableAnd Φ (LBE (bs ++ List.replicate (m + 1) nilB)), fun w G cx => ?_, ⟨p', cap', m + 1, .inr (by omega), rfl, rfl, rfl⟩, by omega⟩
    have eB : bs ++ List.replicate (m + 1) nilB = B ++ [nilB] := by rw [List.replicate_succ', ← List.append_assoc, hB]
    rw [eB]
    have h1 := cx.nobuf 74 1
    have hw := (h1.perm (S' := stA sb tS a p' cap' c d e (B ++ [nilB]) S ++ G) (by
      unfold stA
      simp only [List.map_append, List.map_cons, List.map_nil, List.append_assoc, List.cons_append, List.nil_append, List.length_append, List.length_cons, List.length_nil]
      exact (List.Perm.swap _ _ _).trans (.cons _ ((List.Perm.swap _ _ _).trans (.cons _ List.perm_middle.symm))))).weak (Ψ := fun M w => Φ M w ∧ LBE (B ++ [nilB]) M w) fun M w h => ⟨h.1, fun x hx => by
        rcases List.mem_append.1 hx with hx | hx
        · exact h.2 x hx
        · rw [List.mem_singleton.1 hx]; exact Elems.nil⟩
    exact hw
  have hgt : i < B.length := by have := of_decide_eq_false hgt; omega
  have hmm : m = i + 1 - bs.length := by omega
  obtain ⟨g, hg, _⟩ := cx.bufCell 1 rfl (by rw [List.length_map]; omega)
  subst hg
  clear cx
  refine Br.intro (fun hrn => ?_) (fun hrn => fun w G cx => ?_)
  rotate_left
  · have hr0 : r = [] := List.eq_nil_of_length_eq_zero (by have := of_decide_eq_false hrn; omega)
    refine hK _ ld B w ?_ cx.left
    rw [addAt_eq, if_pos hr0, List.length_map, ← hmm, hBm]
  have hrn : r ≠ [] := fun h => by rw [h] at hrn; have := of_decide_eq_true hrn; simp at this
  obtain ⟨x, hx⟩ : ∃ x, B[i] = x := ⟨_, rfl⟩
  have hxm : x ∈ B := by rw [← hx]; exact List.getElem_mem hgt
  have hsplit : B = B.take i ++ x :: B.drop (i + 1) := by rw [← hx, ← List.drop_eq_getElem_cons hgt, List.take_append_drop]
  have ti : ((i : Int)).toNat = i := Int.toNat_natCast i
  have hcell : (B.map LB.cell)[i]? = some x.cell := by rw [List.getElem?_map, List.getElem?_eq_getElem hgt, hx]; rfl
  have hsub : ∀ (T G : List Own), ([Own.blk sb [a, .slice (some ⟨g, 0, none⟩) B.length ld, c, d, e] tS, Own.buf (some ⟨g, 0, none⟩) B.length ld (B.map LB.cell) 84 1] ++ G).Sublist (Own.blk sb [a, .slice (some ⟨g, 0, none⟩) B.length ld, c, d, e] tS :: Own.buf (some ⟨g, 0, none⟩) B.length ld (B.map LB.cell) 84 1 :: T ++ G) := fun T G =>
    (((List.nil_sublist T).cons_cons _).cons_cons _).append_right G
  refine ⟨[Own.blk sb [a, .slice (some ⟨g, 0, none⟩) B.length ld, c, d, e] tS, Own.buf (some ⟨g, 0, none⟩) B.length ld (B.map LB.cell) 84 1], fun _ _ => True, inferInstance, fun w G cx => (cx.sub (hsub _ G)).weak fun _ _ _ => trivial, _, B.length, ld, fun w G cx => ⟨_, _, _, cx.get 0 rfl rfl, rfl⟩, _, B.length, ld, fun w G cx => ⟨_, _, _, cx.get 0 rfl rfl, rfl⟩, ⟨by omega, by omega⟩, ptrK_intro g 0 rfl ⟨x.p, x.l.length, x.c, fun w G cx => ⟨_, _, _, by rw [Nat.zero_add, ti]; exact cx.bufGet 1 rfl rfl hcell, rfl⟩, fun k => ⟨fun w G cx => (cx.drop1.sub (hsub _ G)).weak fun _ _ _ => trivial, fun w G cx => ?_⟩⟩⟩
  -- the run goes in
  obtain ⟨x', hx'⟩ : ∃ x' : Option Addr → Nat → LB, ∀ p n, x' p n = ⟨p, n, .slice rp r.length rc :: x.ds, r :: x.l⟩ := ⟨_, fun _ _ => rfl⟩
  have cx1 : Ctx W w (x.own :: Own.blk k [.slice rp r.length rc] 74 :: (Own.blk sb [a, .slice (some ⟨g, 0, none⟩) B.length ld, c, d, e] tS :: Own.buf (some ⟨g, 0, none⟩) B.length ld (B.map LB.cell) 84 1 :: ((B.take i).map LB.own ++ ((B.drop (i + 1)).map LB.own ++ (S ++ G))))) (fun M w => Φ M w ∧ LBE B M w) := cx.perm (by
    have em : B.map LB.own = (B.take i).map LB.own ++ x.own :: (B.drop (i + 1)).map LB.own := by
      conv => lhs; rw [hsplit]
      rw [List.map_append, List.map_cons]
    unfold stA
    rw [em]
    simp only [List.append_assoc, List.cons_append]
    exact List.perm_middle (l₁ := Own.blk k [.slice rp r.length rc] 74 :: Own.blk sb [a, .slice (some ⟨g, 0, none⟩) B.length ld, c, d, e] tS :: Own.buf (some ⟨g, 0, none⟩) B.length ld (B.map LB.cell) 84 1 :: (B.take i).map LB.own))
  refine InsertR_use (x := x) (vb := k) (tvb := 74) (v := .slice rp r.length rc) rfl (cx1.phi.2 x hxm) (by have := hBx x hxm; omega) cx1 fun p' cap' w' cx2 => ?_
  have hset : (B.set i (x' p' cap')).map LB.own = (B.take i).map LB.own ++ (x' p' cap').own :: (B.drop (i + 1)).map LB.own := by
    rw [List.set_eq_take_append_cons_drop, if_pos hgt, List.map_append, List.map_cons]
  have hlen : (B.set i (x' p' cap')).length = B.length := List.length_set
  have hLBE : ∀ M w, (Φ M w ∧ LBE B M w) → Φ M w ∧ LBE (B.set i (x' p' cap')) M w := fun M w h => ⟨h.1, fun y hy => by
    rcases List.mem_or_eq_of_mem_set hy with hy | hy
    · exact h.2 y hy
    · rw [hy, hx']
      exact elems_cons (rep_list.2 ⟨rp, rc, rfl, hr1, hr2, hR.go M w h.1⟩) (h.2 x hxm)⟩
  have cx3 : Ctx W w' ((Own.blk sb [a, .slice (some ⟨g, 0, none⟩) B.length ld, c, d, e] tS :: Own.buf (some ⟨g, 0, none⟩) B.length ld (B.map LB.cell) 84 1 :: ((B.set i (x' p' cap')).map LB.own ++ S)) ++ G) (fun M w => Φ M w ∧ LBE (B.set i (x' p' cap')) M w) := by
    have h1 := (cx2.swap.drop1).weak hLBE
    refine h1.perm ?_
    rw [hset, hx']
    simp only [List.append_assoc, List.cons_append]
    exact (List.perm_middle (l₁ := Own.blk sb [a, .slice (some ⟨g, 0, none⟩) B.length ld, c, d, e] tS :: Own.buf (some ⟨g, 0, none⟩) B.length ld (B.map LB.cell) 84 1 :: (B.take i).map LB.own)).symm
  have hst2 : Stable (fun M w => Φ M w ∧ LBE (B.set i (x' p' cap')) M w) := instStableAnd Φ (LBE (B.set i (x' p' cap')))
  refine ⟨p', _, cap', rfl, _, _, hst2, cx3, fun w G cx => (cx.sub (hsub _ G)).weak fun _ _ _ => trivial, ⟨by omega, by omega⟩, ptrK_intro g 0 rfl fun w G cx => ⟨by rw [Nat.zero_add, ti]; exact cx.bufCan 1 rfl rfl (by rw [List.length_map]; omega), fun w' hw' => ?_⟩⟩
  rw [Nat.zero_add, ti] at hw'
  have cx5 := cx.bufPuts 1 (vs := [.slice p' (x.l.length + 1) cap']) (b := g) (o := i) (w' := w') rfl rfl (by rw [List.length_map]; omega) (by rw [List.length_map]; show i + 1 ≤ _; omega) hw'
  have hcs : setL (B.map LB.cell) i [.slice p' (x.l.length + 1) cap'] = (B.set i (x' p' cap')).map LB.cell := by
    rw [List.map_set, hx']
    rfl
  rw [hcs] at cx5
  refine ⟨stA sb tS a (some ⟨g, 0, none⟩) ld c d e (B.set i (x' p' cap')) S, _, hst2, by unfold stA; rw [hlen]; exact cx5, fun w G cx => hK _ ld (B.set i (x' p' cap')) w ?_ cx.left⟩
  rw [addAt_eq, if_neg hrn, List.length_map, ← hmm, ← hBm, List.map_set, hx']
  congr 2
  rw [List.getD_eq_getElem?_getD, List.getElem?_map, List.getElem?_eq_getElem hgt, hx]
  rfl
end Go.Proofs.YtebnciehcnedjaaGreatDoor
end

section
namespace Go.Proofs.YtebnciehcnedjaaGreatDoor
set_option maxRecDepth 100000
open Go.Vc
def Mstore_Store_settle (sB sO : Nat) (W : World) (R : List Own) (Φ : PW) (J : Value → World → Prop) : Prop :=
  exI fun (I0 : List Own → PW → Prop) => (∀ w1 R2, Ctx W w1 (R ++ R2) Φ → ∃ p3 k4 k5, w1.cell? (Addr.mk sB sO none) = some (.slice p3 k4 k5) ∧ Br (decide ((↑k4 : Int) = 8)) (∀ w6 R7, Ctx W w6 (R ++ R7) Φ → ∃ p8 k9 k10, w6.cell? (Addr.mk sB sO none) = some (.slice p8 k9 k10) ∧ ∀ w11 R12, Ctx W w11 (R ++ R12) Φ → Calls Tryz.prog F.store_Store_add #[.pointer (some (Addr.mk sB sO none)), .int .i64 0, .slice p8 k9 k10] w11 fun e13 w14 => e13 = .returned (Value.tuple #[]) ∧ ∃ R15 Φ16, Stable Φ16 ∧ Ctx W w14 (R15 ++ R12) Φ16 ∧ ∀ w17 R18, Ctx W w17 (R15 ++ R18) Φ16 → CanWrite w17 sB sO 1 ∧ ∀ (w19 : World), w19 = w17.setCell (Addr.mk sB sO none) (Value.slice none 0 0) → ∃ R20 Φ21, Stable Φ21 ∧ Ctx W w19 (R20 ++ R18) Φ21 ∧ ∃ R22 Φ23, Stable Φ23 ∧ Wk W R20 Φ21 R22 Φ23 ∧ I0 R22 Φ23) (∃ R26 Φ27, Stable Φ27 ∧ Wk W R Φ R26 Φ27 ∧ I0 R26 Φ27)) ∧ ∀ (R30 : List Own) (I31 : List Nat → World → Prop), Stable
  I31 → I0 R30 I31 → exI fun (I32 : Int → List Own → PW → Nat → Prop) => (∃ R33 Φ34 k35, Stable Φ34 ∧ Wk W R30 I31 R33 Φ34 ∧ I32 0 R33 Φ34 k35) ∧ ∀ n38 R39 I40 k41, Stable I40 → I32 n38 R39 I40 k41 → ∀ w42 R43, Ctx W w42 (R39 ++ R43) I40 → ∃ p44 k45 k46, w42.cell? (Addr.mk sB (sO + 1) none) = some (.slice p44 k45 k46) ∧ Br (decide (n38 < (↑k45 : Int))) (∀ w47 R48, Ctx W w47 (R39 ++ R48) I40 → ∃ p49 k50 k51, w47.cell? (Addr.mk sB (sO + 1) none) = some (.slice p49 k50 k51) ∧ (0 ≤ n38 ∧ n38 < (↑k50 : Int)) ∧ ptrK none p49 fun k52 k53 => ∀ w54 R55, Ctx W w54 (R39 ++ R55) I40 → ∃ p56 k57 k58, w54.cell? (Addr.mk k52 (k53 + n38.toNat) none) = some (.slice p56 k57 k58) ∧ Br (decide ((↑k57 : Int) < 4)) (I64 (n38 + 1) ∧ ∃ R59 Φ60 k61, Stable Φ60 ∧ Wk W R39 I40 R59 Φ60 ∧ I32 (n38 + 1) R59 Φ60 k61 ∧ k61 < k41) (∀ w64 R65, Ctx W w64 (R39 ++ R65) I40 → ∃ p66 k67 k68, w64.cell? (Addr.mk sB (sO + 1)
  none) = some (.slice p66 k67 k68) ∧ (0 ≤ n38 ∧ n38 < (↑k67 : Int)) ∧ ptrK none p66 fun k69 k70 => ∀ w71 R72, Ctx W w71 (R39 ++ R72) I40 → ∃ p73 k74 k75, w71.cell? (Addr.mk k69 (k70 + n38.toNat) none) = some (.slice p73 k74 k75) ∧ ∀ w76 R77, Ctx W w76 (R39 ++ R77) I40 → Calls Tryz.prog F.store_merge #[.slice p73 k74 k75] w76 fun e78 w79 => ∃ p80 k81 k82, e78 = .returned (.slice p80 k81 k82) ∧ ∃ R83 Φ84, Stable Φ84 ∧ Ctx W w79 (R83 ++ R77) Φ84 ∧ exI fun (I85 : Option Addr → Nat → Nat → List Own → PW → Prop) => (∀ w86 R87, Ctx W w86 (R83 ++ R87) Φ84 → ∃ p88 k89 k90, w86.cell? (Addr.mk sB (sO + 1) none) = some (.slice p88 k89 k90) ∧ I64 (n38 + 1) ∧ (0 ≤ n38 + 1 ∧ n38 + 1 ≤ (↑k89 : Int) ∧ k89 ≤ k90) ∧ ∀ w91 R92, Ctx W w91 (R83 ++ R92) Φ84 → Calls Tryz.prog F.slices_ContainsFunc__store_run__store_run #[.slice (subPtr p88 1 (n38 + 1).toNat k90) (k89 - (n38 + 1).toNat) (k90 - (n38 + 1).toNat),
  Value.func (Fn.func 94) #[] #[]] w91 fun e93 w94 => ∃ c95, e93 = .returned (.bool c95) ∧ ∃ R96 Φ97, Stable Φ97 ∧ Ctx W w94 (R96 ++ R92) Φ97 ∧ Br (!c95) (∀ w98 R99, Ctx W w98 (R96 ++ R99) Φ97 → Calls Tryz.prog F.store_there #[.slice p80 k81 k82] w98 fun e100 w101 => ∃ p102 k103 k104, e100 = .returned (.slice p102 k103 k104) ∧ ∃ R105 Φ106, Stable Φ106 ∧ Ctx W w101 (R105 ++ R99) Φ106 ∧ ∃ R107 Φ108, Stable Φ108 ∧ Wk W R105 Φ106 R107 Φ108 ∧ I85 p102 k103 k104 R107 Φ108) (∃ R111 Φ112, Stable Φ112 ∧ Wk W R96 Φ97 R111 Φ112 ∧ I85 p80 k81 k82 R111 Φ112)) ∧ ∀ (p115 : Option Addr) (k116 k117 : Nat) (R118 : List Own) (I119 : List Nat → World → Prop), Stable I119 → I85 p115 k116 k117 R118 I119 → ∀ w120 R121, Ctx W w120 (R118 ++ R121) I119 → ∃ p122 k123 k124, w120.cell? (Addr.mk sB (sO + 1) none) = some (.slice p122 k123 k124) ∧ (0 ≤ n38 ∧ n38 < (↑k123 : Int)) ∧ ptrK none p122 fun k125 k126 => ∀ w127
  R128, Ctx W w127 (R118 ++ R128) I119 → CanWrite w127 k125 (k126 + n38.toNat) 1 ∧ ∀ (w129 : World), w129 = w127.setCell (Addr.mk k125 (k126 + n38.toNat) none) (Value.slice none 0 0) → ∃ R130 Φ131, Stable Φ131 ∧ Ctx W w129 (R130 ++ R128) Φ131 ∧ I64 (n38 + 1) ∧ ∀ w132 R133, Ctx W w132 (R130 ++ R133) Φ131 → Calls Tryz.prog F.store_Store_add #[.pointer (some (Addr.mk sB sO none)), .int .i64 (n38 + 1), .slice p115 k116 k117] w132 fun e134 w135 => e134 = .returned (Value.tuple #[]) ∧ ∃ R136 Φ137, Stable Φ137 ∧ Ctx W w135 (R136 ++ R133) Φ137 ∧ I64 (n38 + 1) ∧ ∃ R138 Φ139 k140, Stable Φ139 ∧ Wk W R136 Φ137 R138 Φ139 ∧ I32 (n38 + 1) R138 Φ139 k140 ∧ k140 < k41)) (∀ w143 R144, Ctx W w143 (R39 ++ R144) I40 → J (Value.tuple #[]) w143)
theorem Mstore_Store_settle_run (sB sO : Nat) {W w : World} {R : List Own} {Φ : PW} [Stable Φ] {J : Value → World → Prop} (c : Ctx W w R Φ) (h : Mstore_Store_settle sB sO W R Φ J) : Calls Tryz.prog F.store_Store_settle #[.pointer (some ⟨sB, sO, none⟩)] w fun e w' => ∃ v, e = .returned v ∧ J v w' :=
  vcFS_sound (H := { keep := some [0, 2, 3, 9, 25, 36, 53], loops := [(4, [(2, .one (.int .i64))], [])], cuts := [(3, [], []), (10, [(3, .one (.slice))], [])] }) (by rw [show vcFS Tryz.prog W { keep := some [0, 2, 3, 9, 25, 36, 53], loops := [(4, [(2, .one (.int .i64))], [])], cuts := [(3, [], []), (10, [(3, .one (.slice))], [])] } F.store_Store_settle #[.pointer (some ⟨sB, sO, none⟩)] R Φ J = Mstore_Store_settle sB sO W R Φ J by kernel_rfl]; exact h) c
end Go.Proofs.YtebnciehcnedjaaGreatDoor
end

section
namespace Go.Proofs.YtebnciehcnedjaaGreatDoor
open Go.Vc
theorem settle1_g (p : Option Addr) (n c : Nat) : Gives Tryz.prog F.store_Store_settle_1 #[.slice p n c] (.bool (decide (0 < n))) :=
  gives_of (Bstore_Store_settle_1_run p n c) fun W R Φ _ => fun w F c => ⟨by congr 1; exact decide_eq_decide.2 (by omega), c.left⟩
theorem Contains_use {W w : World} {X : Own} {S : List Own} {Φ : PW} [Stable Φ] {g ld : Nat} {B : List LB} {k : Nat} (hk : k ≤ B.length) (hB : B.length ≤ 100000) (hld : B.length ≤ ld)
    (cx : Ctx W w (X :: .buf (some ⟨g, 0, none⟩) B.length ld (B.map LB.cell) 84 1 :: S) Φ) {K : Ending → World → Prop}
    (hK : ∀ w', Ctx W w' (X :: .buf (some ⟨g, 0, none⟩) B.length ld (B.map LB.cell) 84 1 :: S) Φ → K (.returned (.bool (decide (∃ y ∈ B.drop k, 0 < y.l.length)))) w') :
    Calls Tryz.prog F.slices_ContainsFunc__store_run__store_run #[.slice (subPtr (some ⟨g, 0, none⟩) 1 k ld) (B.length - k) (ld - k), .func (.func F.store_Store_settle_1) #[] #[]] w K := by
  obtain ⟨R0, hR0⟩ : ∃ R0, X :: .buf (some ⟨g, 0, none⟩) B.length ld (B.map LB.cell) 84 1 :: S = R0 := ⟨_, rfl⟩
  refine (Bslices_ContainsFunc__store_run__store_run_run (subPtr (some ⟨g, 0, none⟩) 1 k ld) (B.length - k) (ld - k) F.store_Store_settle_1 #[] (J := fun u w' => K (.returned u) w') cx ?_).mono fun e w' ⟨v, he, hj⟩ => by rw [he]; exact hj
  clear cx
  refine fun w G cx => ?_
  -- the index
  have idx : ∀ {w : World} {G : List Own} {K2 : Ending → World → Prop}, Ctx W w ((X :: .buf (some ⟨g, 0, none⟩) B.length ld (B.map LB.cell) 84 1 :: S) ++ G) Φ → (∀ (n : Int) w', (0 ≤ n ↔ ∃ y ∈ B.drop k, 0 < y.l.length) → Ctx W w' ((X :: .buf (some ⟨g, 0, none⟩) B.length ld (B.map LB.cell) 84 1 :: S) ++ G) Φ → K2 (.returned (.int .i64 n)) w') →
      Calls Tryz.prog F.slices_IndexFunc__store_run__store_run #[.slice (subPtr (some ⟨g, 0, none⟩) 1 k ld) (B.length - k) (ld - k), .func (.func F.store_Store_settle_1) #[] #[]] w K2 := fun {w G K2} cx hK2 => by
    refine (Bslices_IndexFunc__store_run__store_run_run (subPtr (some ⟨g, 0, none⟩) 1 k ld) (B.length - k) (ld - k) F.store_Store_settle_1 #[] (J := fun u w' => K2 (.returned u) w') cx ?_).mono fun e w' ⟨v, he, hj⟩ => by rw [he]; exact hj
    refine exI_mk (fun iI R' Φ' n => ∃ i : Nat, iI = i ∧ i ≤ B.length - k ∧ (∀ q (h : q < B.length), k ≤ q → q < k + i → ¬ 0 < B[q].l.length) ∧ R' = (X :: .buf (some ⟨g, 0, none⟩) B.length ld (B.map LB.cell) 84 1 :: S) ++ G ∧ Φ' = Φ ∧ n = B.length - k - i) ⟨⟨_, Φ, _, inferInstance, fun w G cx => cx, 0, rfl, Nat.zero_le _, fun q h h1 h2 => by omega, rfl, rfl, rfl⟩, ?_⟩
    rintro iI R1 Φ1 n _ ⟨i, rfl, hi, h1, rfl, rfl, rfl⟩
    refine Br.intro (fun hlt => ?_) (fun hge => fun w G2 cx => ?_)
    · have hlt : i < B.length - k := by have := of_decide_eq_true hlt; omega
      have hq : k + i < B.length := by omega
      rw [subPtr_at g 1 k ld (by omega), Nat.mul_one]
      have hcell : (B.map LB.cell)[k + i]? = some (B[k + i]).cell := by rw [List.getElem?_map, List.getElem?_eq_getElem hq]; rfl
      refine ⟨⟨by omega, by omega⟩, ptrK_intro g k rfl fun w G2 cx => ⟨_, _, _, by rw [Int.toNat_natCast]; exact cx.bufGet 1 rfl rfl hcell, fun w G2 cx => ⟨by kernel_rfl, (settle1_g _ _ _).use cx fun w cx => ⟨_, rfl, _, Φ1, inferInstance, cx, Br.intro (fun hc => fun w G2 cx => ?_) (fun hc => ?_)⟩⟩⟩⟩
      · exact hK2 _ w ⟨fun _ => ⟨B[k + i], by rw [List.mem_iff_getElem?]; exact ⟨i, by rw [List.getElem?_drop, List.getElem?_eq_getElem hq]⟩, of_decide_eq_true hc⟩, fun _ => by omega⟩ cx.left
      · have hc := of_decide_eq_false hc
        exact ⟨by unfold I64; omega, _, Φ1, B.length - k - (i + 1), inferInstance, fun w G cx => cx, ⟨i + 1, by omega, by omega, fun q h h3 h4 => by
          by_cases e : q = k + i
          · subst e; exact hc
          · exact h1 q h h3 (by omega), rfl, rfl, rfl⟩, by omega⟩
    · have hge : i = B.length - k := by have := of_decide_eq_false hge; omega
      refine hK2 _ w ⟨fun h => absurd h (by omega), fun ⟨y, hy, hy2⟩ => ?_⟩ cx.left
      obtain ⟨q, hq, rfl⟩ := List.getElem_of_mem hy
      rw [List.length_drop] at hq
      rw [List.getElem_drop] at hy2
      exact absurd hy2 (h1 (k + q) (by omega) (by omega) (by omega))
  refine idx cx fun n w hn cx => ⟨n, rfl, _, Φ, inferInstance, cx, fun w G cx => ?_⟩
  have e : decide (0 ≤ n) = decide (∃ y ∈ B.drop k, 0 < y.l.length) := decide_eq_decide.2 hn
  rw [e]
  exact hK w cx.left
theorem addAt_at : ∀ (D t : List Lev) (r : Run), addAt D.length (D ++ t) r = D ++ addL t r
  | [], t, r => rfl
  | d :: D, t, r => by
    show d :: addAt D.length (D ++ t) r = d :: (D ++ addL t r)
    rw [addAt_at D t r]
theorem cnt_app (a b : List Lev) : cntL (a ++ b) = cntL a + cntL b := by
  unfold cntL
  rw [List.map_append, List.sum_append, List.length_append]
  omega
theorem cnt_len (ls : List Lev) : ls.length ≤ cntL ls := by unfold cntL; omega
theorem le_sum : ∀ {l : List Nat} {x : Nat}, x ∈ l → x ≤ l.sum
  | y :: l, x, h => by
    rw [List.sum_cons]
    rcases List.mem_cons.1 h with rfl | h
    · omega
    · have := le_sum h; omega
theorem cnt_mem {ls : List Lev} {l : Lev} (h : l ∈ ls) : l.length ≤ cntL ls := by
  unfold cntL
  have : l.length ≤ (ls.map List.length).sum := le_sum (List.mem_map.2 ⟨l, h, rfl⟩)
  omega
theorem all_app (a b : List Lev) : allRuns (a ++ b) = allRuns a ++ allRuns b := by unfold allRuns; rw [List.flatten_append, List.flatten_append]
theorem push_len (l : Lev) (t : List Lev) : (pushR l t).length ≤ l.flatten.length := by
  have h := normK_len l.flatten
  unfold pushR
  split
  · exact Nat.le_trans (List.length_filter_le _ _) h
  · exact h
end Go.Proofs.YtebnciehcnedjaaGreatDoor
end

section
namespace Go.Proofs.YtebnciehcnedjaaGreatDoor
open Go.Vc
abbrev tabO (tp : Option Addr) (tc : Nat) (t : Run) : Own := bufE tp tc (idxL 0 t)
def settledT (t : Run) : Run := if t.length = 8 then [] else t
def settledL (t : Run) (ls : List Lev) : List Lev := settleL (if t.length = 8 then addL ls t else ls)
set_option maxHeartbeats 8000000 in
theorem settle_use {W w : World} {S : List Own} {Φ : PW} [Stable Φ] {sb : Nat} {tS : TypeId} {c d e : Value} {tp lp : Option Addr} {tc lc : Nat} {t : Run} {bs : List LB} (hz : Szs t) (hcn : cntL (bs.map LB.l) ≤ 900) (hrn : (t ++ allRuns (bs.map LB.l)).length < 40000000)
    (cx : Ctx W w (stA sb tS (.slice tp t.length tc) lp lc c d e bs (tabO tp tc t :: S)) (fun M w => Φ M w ∧ LBE bs M w)) {K : Ending → World → Prop}
    (hK : ∀ tp' tc' lp' lc' bs' w', bs'.map LB.l = settledL t (bs.map LB.l) → Ctx W w' (stA sb tS (.slice tp' (settledT t).length tc') lp' lc' c d e bs' (tabO tp' tc' (settledT t) :: S)) (fun M w => Φ M w ∧ LBE bs' M w) → K (.returned (.tuple #[])) w') :
    Calls Tryz.prog F.store_Store_settle #[.pointer (some ⟨sb, 0, none⟩)] w K := by
  refine (Mstore_Store_settle_run sb 0 (J := fun u w' => K (.returned u) w') cx ?_).mono fun e w' ⟨v, he, hj⟩ => by rw [he]; exact hj
  clear cx
  have hbl : bs.length ≤ 900 := by have := cnt_len (bs.map LB.l); rw [List.length_map] at this; omega
  have hbx : ∀ x ∈ bs, x.l.length ≤ 900 := fun x hx => Nat.le_trans (cnt_mem (List.mem_map.2 ⟨x, hx, rfl⟩)) hcn
  -- what stands after the table went
  refine ⟨fun R' Φ' => ∃ (tq lq : Option Addr) (td ld : Nat) (B : List LB), B.map LB.l = (if t.length = 8 then addL (bs.map LB.l) t else bs.map LB.l) ∧ R' = stA sb tS (.slice tq (settledT t).length td) lq ld c d e B (tabO tq td (settledT t) :: S) ∧ Φ' = (fun M w => Φ M w ∧ LBE B M w), fun w G cx => ⟨tp, t.length, tc, cx.get 0 rfl rfl, Br.intro (fun h8 => ?_) (fun h8 => ?_)⟩, ?_⟩
  · have h8 : t.length = 8 := by have := of_decide_eq_true h8; omega
    clear cx
    refine fun w G cx => ⟨tp, t.length, tc, cx.get 0 rfl rfl, fun w G cx => ?_⟩
    -- the table is a run from now on
    have cx1 : Ctx W w (tabO tp tc t :: (stA sb tS (.slice tp t.length tc) lp lc c d e bs (S ++ G))) (fun M w => Φ M w ∧ LBE bs M w) := cx.perm (by
      unfold stA
      simp only [List.append_assoc, List.cons_append]
      exact List.perm_middle (l₁ := Own.blk sb [.slice tp t.length tc, .slice lp bs.length lc, c, d, e] tS :: Own.buf lp bs.length lc (bs.map LB.cell) 84 1 :: bs.map LB.own))
    obtain ⟨cx2, hc1, hc2⟩ := freezeE cx1 (by rw [idxL_d]; exact hz)
    rw [idxL_d] at cx2 hc1
    have cx3 := cx2.weak (Ψ := fun M w => (Φ M w ∧ Sl M w tp t) ∧ LBE bs M w) fun M w h => ⟨⟨h.1.1, h.2⟩, h.1.2⟩
    refine add_use (Φ := fun M w => Φ M w ∧ Sl M w tp t) (hR := ⟨fun M w h => h.2⟩) (i := 0) hc1 hc2 (by omega) (by omega) (fun x hx => by have := hbx x hx; omega) cx3 fun lp' lc' bs' w' hb' cx4 => ?_
    have cx5 := (cx4.weak (Ψ := fun M w => Φ M w ∧ LBE bs' M w) fun M w h => ⟨h.1.1, h.2⟩).nobuf 69 2
    have hst : Stable (fun M w => Φ M w ∧ LBE bs' M w) := instStableAnd Φ (LBE bs')
    have e0 : settledT t = [] := by unfold settledT; rw [if_pos h8]
    have cx6 : Ctx W w' (stA sb tS (.slice tp t.length tc) lp' lc' c d e bs' (tabO none 0 (settledT t) :: S) ++ G) (fun M w => Φ M w ∧ LBE bs' M w) := cx5.perm (by
      rw [e0]
      unfold stA
      simp only [List.append_assoc, List.cons_append]
      exact (List.perm_middle (l₁ := Own.blk sb [.slice tp t.length tc, .slice lp' bs'.length lc', c, d, e] tS :: Own.buf lp' bs'.length lc' (bs'.map LB.cell) 84 1 :: bs'.map LB.own)).symm)
    refine ⟨rfl, _, _, hst, cx6, fun w G cx => ⟨cx.can 0 rfl (by show 0 + 1 ≤ 5; omega), fun w' hw' => ?_⟩⟩
    have cx7 := cx.put 0 hw' rfl
    refine ⟨stA sb tS (.slice none 0 0) lp' lc' c d e bs' (tabO none 0 (settledT t) :: S), _, hst, cx7, _, _, hst, fun w G cx => cx, none, lp', 0, lc', bs', ?_, ?_, rfl⟩
    · rw [if_pos h8, hb']; rfl
    · rw [e0]; rfl
  · have h8 : ¬ t.length = 8 := by have := of_decide_eq_false h8; omega
    have e0 : settledT t = t := by unfold settledT; rw [if_neg h8]
    exact ⟨_, _, instStableAnd Φ (LBE bs), fun w G cx => cx, tp, lp, tc, lc, bs, by rw [if_neg h8], by rw [e0], rfl⟩
  rintro R1 Φ1 hst1 ⟨tq, lq, td, ld, B0, hB0, rfl, rfl⟩
  obtain ⟨ls0, hls0⟩ : ∃ ls0, (if t.length = 8 then addL (bs.map LB.l) t else bs.map LB.l) = ls0 := ⟨_, rfl⟩
  have hfin : settledL t (bs.map LB.l) = settleL ls0 := by unfold settledL; rw [hls0]
  rw [hls0] at hB0
  have hc0 : cntL ls0 ≤ 902 := by
    rw [← hls0]
    split
    · have := addL_cnt (bs.map LB.l) t; omega
    · omega
  have hr0 : (allRuns ls0).length < 40000000 := by
    rw [List.length_append] at hrn
    rw [← hls0]
    split
    · rw [addL_runs, List.length_append]; omega
    · omega
  generalize hTT : tabO tq td (settledT t) :: S = S1 at hst1 ⊢
  generalize hTV : Value.slice tq (settledT t).length td = tv at hst1 ⊢
  refine exI_mk (fun iI R' Φ' k => ∃ (lq : Option Addr) (ld i : Nat) (B : List LB) (D rest : List Lev), iI = i ∧ D.length = i ∧ B.map LB.l = D ++ rest ∧ settleL ls0 = D ++ settleL rest ∧ cntL (D ++ rest) ≤ 902 ∧ (allRuns (D ++ rest)).length < 40000000 ∧ R' = stA sb tS tv lq ld c d e B S1 ∧ Φ' = (fun M w => Φ M w ∧ LBE B M w) ∧ k = cntL rest)
    ⟨⟨_, _, _, hst1, fun w G cx => cx, lq, ld, 0, B0, [], ls0, rfl, rfl, hB0, rfl, hc0, hr0, rfl, rfl, rfl⟩, ?_⟩
  clear hst1 hB0
  rintro iI R1 Φ1 k hst1 ⟨lq, ld, i, B, D, rest, rfl, hD, hBm, hset, hc, hr, rfl, rfl, rfl⟩
  have hBl : B.length = D.length + rest.length := by
    have := congrArg List.length hBm
    rw [List.length_map, List.length_append] at this
    exact this
  have hcl := cnt_len (D ++ rest)
  rw [List.length_append] at hcl
  refine fun w G cx => ⟨lq, B.length, ld, cx.get 0 rfl rfl, Br.intro (fun hlt => ?_) (fun hge => ?_)⟩
  rotate_left
  · have hge : rest = [] := List.eq_nil_of_length_eq_zero (by have := of_decide_eq_false hge; omega)
    refine fun w G cx => hK tq td lq ld B w ?_ ?_
    · rw [hfin, hset, hBm, hge, settleL_nil]
    · rw [hTT, hTV]; exact cx.left
  have hlt : i < B.length := by have := of_decide_eq_true hlt; omega
  obtain ⟨l, rt, hrest⟩ : ∃ l rt, rest = l :: rt := by
    cases rest with
    | nil => rw [List.length_nil] at hBl; omega
    | cons l rt => exact ⟨l, rt, rfl⟩
  subst hrest
  obtain ⟨g, hg, _⟩ := cx.bufCell 1 rfl (by rw [List.length_map]; omega)
  obtain ⟨_, hnd, _⟩ := cx.bufLen 1 rfl
  subst hg
  clear cx
  obtain ⟨x, hx⟩ : ∃ x, B[i] = x := ⟨_, rfl⟩
  have hxl : x.l = l := by
    have h1 : (B.map LB.l)[i]? = some x.l := by rw [List.getElem?_map, List.getElem?_eq_getElem hlt, hx]; rfl
    rw [hBm, List.getElem?_append_right (by omega), hD, Nat.sub_self] at h1
    exact (Option.some.inj h1).symm
  have ti : ((i : Int)).toNat = i := Int.toNat_natCast i
  have ti1 : ((i : Int) + 1).toNat = i + 1 := by omega
  have hcell : (B.map LB.cell)[i]? = some x.cell := by rw [List.getElem?_map, List.getElem?_eq_getElem hlt, hx]; rfl
  have hxm : x ∈ B := by rw [← hx]; exact List.getElem_mem hlt
  refine fun w G cx => ⟨_, B.length, ld, cx.get 0 rfl rfl, ⟨by omega, by omega⟩, ptrK_intro g 0 rfl fun w G cx => ⟨x.p, x.l.length, x.c, by rw [Nat.zero_add, ti]; exact cx.bufGet 1 rfl rfl hcell, Br.intro (fun h4 => ?_) (fun h4 => ?_)⟩⟩
  · have h4 : l.length < 4 := by have := of_decide_eq_true h4; rw [hxl] at this; omega
    have hcr : cntL (l :: rt) = l.length + 1 + cntL rt := by unfold cntL; simp; omega
    exact ⟨by unfold I64; omega, _, _, cntL rt, hst1, fun w G cx => cx, ⟨_, ld, i + 1, B, D ++ [l], rt, by omega, by rw [List.length_append, hD]; rfl, by rw [hBm, List.append_assoc]; rfl, by rw [hset, settleL_less h4, List.append_assoc]; rfl, by rw [List.append_assoc]; exact hc, by rw [List.append_assoc]; exact hr, rfl, rfl, rfl⟩, by omega⟩
  have h4 : ¬ l.length < 4 := by have := of_decide_eq_false h4; rw [hxl] at this; omega
  -- a level is merged
  obtain ⟨B', hB'⟩ : ∃ B', B.set i nilB = B' := ⟨_, rfl⟩
  have hBl' : B'.length = B.length := by rw [← hB', List.length_set]
  have hBm' : B'.map LB.l = D ++ [] :: rt := by
    rw [← hB', List.map_set, hBm, List.set_append_right _ _ (by omega), hD, Nat.sub_self]
    rfl
  have hcs : (B.map LB.cell).set i (.slice none 0 0) = B'.map LB.cell := by rw [← hB', List.map_set]; rfl
  have hLBE : ∀ M w, LBE B M w → LBE B' M w := fun M w h y hy => by
    rw [← hB'] at hy
    rcases List.mem_or_eq_of_mem_set hy with hy | hy
    · exact h y hy
    · rw [hy]; exact Elems.nil
  obtain ⟨Rm, hRm⟩ : ∃ Rm, (Own.blk sb [tv, .slice (some ⟨g, 0, none⟩) B.length ld, c, d, e] tS :: Own.buf (some ⟨g, 0, none⟩) B.length ld (B.map LB.cell) 84 1 :: (B'.map LB.own ++ S1)) = Rm := ⟨_, rfl⟩
  have hcr : cntL (l :: rt) = l.length + 1 + cntL rt := by unfold cntL; simp; omega
  have hfl : l.flatten.length < 40000000 := by
    have : (allRuns (D ++ l :: rt)).length = (allRuns D).length + (l.flatten.length + (allRuns rt).length) := by rw [all_app, allRuns_cons, List.length_append, List.length_append]
    omega
  have hll : l.length ≤ 902 := Nat.le_trans (cnt_mem (ls := D ++ l :: rt) (by simp)) hc
  have stm : Stable (fun M w => Φ M w ∧ LBE B' M w) := instStableAnd Φ (LBE B')
  refine fun w G cx => ⟨_, B.length, ld, cx.get 0 rfl rfl, ⟨by omega, by omega⟩, ptrK_intro g 0 rfl fun w G cx => ⟨x.p, x.l.length, x.c, by rw [Nat.zero_add, ti]; exact cx.bufGet 1 rfl rfl hcell, fun w G cx => ?_⟩⟩
  have cx1 : Ctx W w (x.own :: (Own.blk sb [tv, .slice (some ⟨g, 0, none⟩) B.length ld, c, d, e] tS :: Own.buf (some ⟨g, 0, none⟩) B.length ld (B.map LB.cell) 84 1 :: ((B.take i).map LB.own ++ ((B.drop (i + 1)).map LB.own ++ (S1 ++ G))))) (fun M w => Φ M w ∧ LBE B M w) := cx.perm (by
    have em : B.map LB.own = (B.take i).map LB.own ++ x.own :: (B.drop (i + 1)).map LB.own := by
      conv => lhs; rw [show B = B.take i ++ x :: B.drop (i + 1) by rw [← hx, ← List.drop_eq_getElem_cons hlt, List.take_append_drop]]
      rw [List.map_append, List.map_cons]
    unfold stA
    rw [em]
    simp only [List.append_assoc, List.cons_append]
    exact List.perm_middle (l₁ := Own.blk sb [tv, .slice (some ⟨g, 0, none⟩) B.length ld, c, d, e] tS :: Own.buf (some ⟨g, 0, none⟩) B.length ld (B.map LB.cell) 84 1 :: (B.take i).map LB.own))
  obtain ⟨cx2, hsl, _, _, _⟩ := Ctx.freeze (α := Run) cx1 (cx1.phi.2 x hxm)
  have cx3 := ((cx2.add hsl).weak (Ψ := fun M w => (Φ M w ∧ LBE B' M w) ∧ Sl M w x.p x.l) fun M w h => ⟨⟨h.1.1, hLBE _ _ h.1.2⟩, h.2⟩).nobuf 74 1
  have cx4 : Ctx W w (Rm ++ G) (fun M w => (Φ M w ∧ LBE B' M w) ∧ Sl M w x.p x.l) := cx3.perm (by
    rw [← hRm, ← hB', List.set_eq_take_append_cons_drop, if_pos hlt, List.map_append, List.map_cons]
    simp only [List.append_assoc, List.cons_append]
    exact (List.perm_middle (l₁ := Own.blk sb [tv, .slice (some ⟨g, 0, none⟩) B.length ld, c, d, e] tS :: Own.buf (some ⟨g, 0, none⟩) B.length ld (B.map LB.cell) 84 1 :: (B.take i).map LB.own)).symm)
  clear cx cx1 cx2 cx3 hsl
  have stx : Stable (fun M w => (Φ M w ∧ LBE B' M w) ∧ Sl M w x.p x.l) := instStableAnd (fun M w => Φ M w ∧ LBE B' M w) (fun M w => Sl M w x.p x.l)
  rw [hxl] at cx4 stx ⊢
  have hmg : GivesSl (fun M w => (Φ M w ∧ LBE B' M w) ∧ Sl M w x.p l) Tryz.prog F.store_merge #[.slice x.p l.length x.c] (normK l.flatten) id := merge_sl (hΦ := ⟨fun M w h => h.2⟩) (by omega) (by omega)
  refine hmg.use cx4 fun p1 c1 w1 g1 g2 cx => ?_
  clear cx4 hmg
  have stp : ∀ (q : Option Addr) (r : Run), Stable (fun M w => (Φ M w ∧ LBE B' M w) ∧ Sl M w q r) := fun q r => instStableAnd (fun M w => Φ M w ∧ LBE B' M w) (fun M w => Sl M w q r)
  refine ⟨p1, _, c1, rfl, Rm, _, stp p1 (normK l.flatten), cx.weak fun M w h => ⟨h.1.1, h.2⟩, ?_⟩
  clear cx
  refine ⟨fun q n cc R' Φ' => n = (pushR l rt).length ∧ (pushR l rt).length ≤ cc ∧ cc ≤ maxLen ∧ R' = Rm ∧ Φ' = (fun M w => (Φ M w ∧ LBE B' M w) ∧ Sl M w q (pushR l rt)), fun w G cx => ?_, ?_⟩
  · subst hRm
    refine ⟨_, B.length, ld, cx.get 0 rfl rfl, by unfold I64; omega, ⟨by omega, by omega, hnd⟩, fun w G cx => ?_⟩
    rw [ti1]
    refine Contains_use (by omega) (by omega) hnd (S := B'.map LB.own ++ S1 ++ G) cx fun w cx => ⟨_, rfl, Own.blk sb [tv, .slice (some ⟨g, 0, none⟩) B.length ld, c, d, e] tS :: Own.buf (some ⟨g, 0, none⟩) B.length ld (B.map LB.cell) 84 1 :: (B'.map LB.own ++ S1), _, stp p1 (normK l.flatten), cx, ?_⟩
    have hany : (∃ y ∈ B.drop (i + 1), 0 < y.l.length) ↔ ¬ (rt.all fun m => decide (m = [])) = true := by
      have hdm : (B.drop (i + 1)).map LB.l = rt := by
        rw [List.map_drop, hBm, List.drop_append, List.drop_of_length_le (by omega), List.nil_append, hD, show i + 1 - i = 1 by omega]
        rfl
      constructor
      · rintro ⟨y, hy, h0⟩ h
        have := List.all_eq_true.1 h y.l (by rw [← hdm]; exact List.mem_map.2 ⟨y, hy, rfl⟩)
        rw [of_decide_eq_true this] at h0
        simp at h0
      · intro h
        rw [List.all_eq_true] at h
        have ⟨m, hm, hm2⟩ : ∃ m ∈ rt, ¬ m = [] := by
          apply Decidable.byContradiction
          intro h2
          apply h
          intro m hm
          refine decide_eq_true ?_
          apply Decidable.byContradiction
          intro h3
          exact h2 ⟨m, hm, h3⟩
        rw [← hdm] at hm
        obtain ⟨y, hy, rfl⟩ := List.mem_map.1 hm
        exact ⟨y, hy, List.length_pos_iff.2 hm2⟩
    refine Br.intro (fun hno => ?_) (fun hyes => ?_)
    · have hall : (rt.all fun m => decide (m = [])) = true := by
        apply Decidable.byContradiction
        intro h
        rw [decide_eq_true (hany.2 h)] at hno
        cases hno
      have epush : pushR l rt = thereP (normK l.flatten) := by unfold pushR; rw [if_pos hall]
      refine fun w G cx => ?_
      have hth : GivesSl (fun M w => (Φ M w ∧ LBE B' M w) ∧ Sl M w p1 (normK l.flatten)) Tryz.prog F.store_there #[.slice p1 (normK l.flatten).length c1] (thereP (normK l.flatten)) id := there_sl (hΦ := ⟨fun M w h => h.2⟩) (by have := normK_len l.flatten; omega)
      refine hth.use cx fun p2 c2 w2 k1 k2 cx => ⟨p2, _, c2, rfl, _, _, stp p2 (thereP (normK l.flatten)), cx.weak fun M w h => ⟨h.1.1, h.2⟩, _, _, stp p2 (thereP (normK l.flatten)), fun w G cx => cx, ?_⟩
      rw [epush]
      exact ⟨rfl, k1, k2, rfl, rfl⟩
    · have hall : ¬ (rt.all fun m => decide (m = [])) = true := by
        intro h
        rw [decide_eq_false (fun h2 => hany.1 h2 h)] at hyes
        cases hyes
      have epush : pushR l rt = normK l.flatten := by unfold pushR; rw [if_neg hall]
      refine ⟨_, _, stp p1 (normK l.flatten), fun w G cx => cx, ?_⟩
      rw [epush]
      exact ⟨rfl, g1, g2, rfl, rfl⟩
  · rintro q n cc R2 Φ2 hst2 ⟨rfl, hq1, hq2, rfl, rfl⟩
    subst hRm
    refine fun w G cx => ⟨_, B.length, ld, cx.get 0 rfl rfl, ⟨by omega, by omega⟩, ptrK_intro g 0 rfl fun w G cx => ⟨by rw [Nat.zero_add, ti]; exact cx.bufCan 1 rfl rfl (by rw [List.length_map]; omega), fun w' hw' => ?_⟩⟩
    rw [Nat.zero_add, ti] at hw'
    have cx5 := cx.bufPuts 1 (vs := [Value.slice none 0 0]) (b := g) (o := i) (w' := w') rfl rfl (by rw [List.length_map]; omega) (by rw [List.length_map]; show i + 1 ≤ _; omega) hw'
    have hcs2 : setL (B.map LB.cell) i [Value.slice none 0 0] = B'.map LB.cell := hcs
    rw [hcs2] at cx5
    have cx6 : Ctx W w' (stA sb tS tv (some ⟨g, 0, none⟩) ld c d e B' S1 ++ G) (fun M w => (Φ M w ∧ LBE B' M w) ∧ Sl M w q (pushR l rt)) := by unfold stA; rw [hBl']; exact cx5
    have stq : Stable (fun M w => (Φ M w ∧ Sl M w q (pushR l rt)) ∧ LBE B' M w) := instStableAnd (fun M w => Φ M w ∧ Sl M w q (pushR l rt)) (LBE B')
    refine ⟨_, _, stq, cx6.weak fun M w h => ⟨⟨h.1.1, h.2⟩, h.1.2⟩, by unfold I64; omega, fun w G cx => ?_⟩
    have hcast : ((i : Int) + 1) = ((i + 1 : Nat) : Int) := by omega
    rw [hcast]
    have cx7 : Ctx W w (stA sb tS tv (some ⟨g, 0, none⟩) ld c d e B' (S1 ++ G)) (fun M w => (Φ M w ∧ Sl M w q (pushR l rt)) ∧ LBE B' M w) := cx.re (by unfold stA; simp only [List.append_assoc, List.cons_append])
    have hlev : ∀ y ∈ B', y.l.length ≤ 1000 := fun y hy => by
      have h1 : y.l ∈ D ++ [] :: rt := by rw [← hBm']; exact List.mem_map.2 ⟨y, hy, rfl⟩
      have h2 := cnt_mem h1
      rw [cnt_app] at h2 hc
      have h3 : cntL ([] :: rt) = 0 + 1 + cntL rt := by unfold cntL; simp; omega
      omega
    refine add_use (Φ := fun M w => Φ M w ∧ Sl M w q (pushR l rt)) (hR := ⟨fun M w h => h.2⟩) (i := i + 1) hq1 hq2 (by omega) (by omega) hlev cx7 fun lp' lc' bs' w' hb' cx8 => ?_
    have stb : Stable (fun M w => Φ M w ∧ LBE bs' M w) := instStableAnd Φ (LBE bs')
    have hb2 : bs'.map LB.l = (D ++ [[]]) ++ addL rt (pushR l rt) := by
      have h1 := addAt_at (D ++ [[]]) rt (pushR l rt)
      rw [List.length_append, hD, List.append_assoc] at h1
      rw [hb', hBm']
      exact h1
    have hadd := addL_cnt rt (pushR l rt)
    have cx9 : Ctx W w' (stA sb tS tv lp' lc' c d e bs' S1 ++ G) (fun M w => Φ M w ∧ LBE bs' M w) := (cx8.weak fun M w h => ⟨h.1.1, h.2⟩).re (by unfold stA; simp only [List.append_assoc, List.cons_append])
    refine ⟨rfl, _, _, stb, cx9, by unfold I64; omega, _, _, cntL (addL rt (pushR l rt)), stb, fun w G cx => cx, ⟨lp', lc', i + 1, bs', D ++ [[]], addL rt (pushR l rt), rfl, by rw [List.length_append, hD]; rfl, hb2, ?_, ?_, ?_, rfl, rfl, rfl⟩, by omega⟩
    · rw [hset, settleL_more h4, List.append_assoc]; rfl
    · rw [cnt_app, cnt_app]
      rw [cnt_app] at hc
      have h3 : cntL [([] : Lev)] = 1 := rfl
      omega
    · rw [all_app, all_app, addL_runs, List.length_append, List.length_append, List.length_append]
      rw [all_app, allRuns_cons, List.length_append, List.length_append] at hr
      have h3 : (allRuns [([] : Lev)]).length = 0 := rfl
      have h5 := push_len l rt
      omega
end Go.Proofs.YtebnciehcnedjaaGreatDoor
end

section
namespace Go.Proofs.YtebnciehcnedjaaGreatDoor
open Go.Vc
theorem find_tab {W w : World} {S : List Own} {Φ : PW} [Stable Φ] {tp : Option Addr} {tc : Nat} {t : Run} (k : ByteArray) (ha : AscK t) (hz : Szs t) (hl : t.length ≤ 100000000) (cx : Ctx W w (tabO tp tc t :: S) Φ) {K : Ending → World → Prop}
    (hK : ∀ w', Ctx W w' (tabO tp tc t :: S) Φ → K (.returned (.tuple #[.int .i64 (lowK t k), .bool (fndK t k)])) w') : Calls Tryz.prog F.store_run_find #[.slice tp t.length tc, .string k] w K := by
  have hE : ∀ M w, Elems M w (cellsE (idxL 0 t)) t := fun M w => by
    have h := e_elems (M := M) (w := w) (es := idxL 0 t) fun x hx => pair_rep (hz x.d (by rw [← idxL_d 0 t]; exact List.mem_map.2 ⟨x, hx, rfl⟩))
    rw [idxL_d] at h
    exact h
  have hst : Stable (fun M w => Φ ((tabO tp tc t).dom ++ M) w ∧ Parked W (tabO tp tc t) M w) := instStableAnd (fun M w => Φ ((tabO tp tc t).dom ++ M) w) (fun M w => Parked W (tabO tp tc t) M w)
  have hf := find_in (Φ := fun M w => Φ ((tabO tp tc t).dom ++ M) w ∧ Parked W (tabO tp tc t) M w) (p := tp) (cap := tc) (l := t) k (hΦ := ⟨fun M w h => Parked.sl (α := PairD) (D := []) h.2 (hE _ _)⟩) ha hl
  exact hf.use cx.park fun w' cx => hK w' cx.unpark
abbrev ChgD.cells (x : ChgD) : List Value := [.int .i64 x.seq, .string x.key, .string x.val]
theorem chgD_rep {M : List Nat} {w : World} {x : ChgD} (h0 : I64 x.seq) (h1 : x.key.size ≤ maxLen) (h2 : x.val.size ≤ maxLen) : Gv.rep M w x.cells x := ⟨[.int .i64 x.seq], [.string x.key, .string x.val], rfl, ⟨rfl, h0⟩, [.string x.key], [.string x.val], rfl, ⟨rfl, h1⟩, rfl, h2⟩
structure TO where
  sb : Nat
  tp : Option Addr
  tc : Nat
  lp : Option Addr
  lc : Nat
  bs : List LB
  gp : Option Addr
  gc : Nat
  gs : List Value
abbrev stO (q : TO) (s : StD) (S : List Own) : List Own :=
  stA q.sb 77 (.slice q.tp s.table.length q.tc) q.lp q.lc (.int .i64 s.seq) (.slice q.gp s.log.length q.gc) (.int .i64 s.cut) q.bs (tabO q.tp q.tc s.table :: .buf q.gp s.log.length q.gc q.gs 46 3 :: S)
abbrev stF (q : TO) (s : StD) : PW := fun M w => Elems M w q.gs s.log ∧ LBE q.bs M w
structure StQ (q : TO) (s : StD) : Prop where
  lev : q.bs.map LB.l = s.levels
  szs : Szs s.table
structure StS (s : StD) (n : Nat) : Prop where
  cnt : cntL s.levels ≤ 2 * n
  ver : (verP s).length ≤ n
  log : s.log.length ≤ n
  seq : I64 (s.seq + 1)
set_option maxHeartbeats 8000000 in
theorem put_use {W w : World} {S : List Own} {Φ : PW} [Stable Φ] {q : TO} {s : StD} {n : Nat} (hq : StQ q s) (hI : StI s) (hS : StS s n) (hn : n ≤ 400) {k v : ByteArray} (hk : k.size ≤ maxLen) (hv : v.size ≤ maxLen)
    (cx : Ctx W w (stO q s S) (fun M w => Φ M w ∧ stF q s M w)) {K : Ending → World → Prop}
    (hK : ∀ q' w', q'.sb = q.sb → StQ q' (putS s k v) → Ctx W w' (stO q' (putS s k v) S) (fun M w => Φ M w ∧ stF q' (putS s k v) M w) → K (.returned (.tuple #[])) w') :
    Calls Tryz.prog F.store_Store_Put #[.pointer (some ⟨q.sb, 0, none⟩), .string k, .string v] w K := by
  obtain ⟨sb, tp, tc, lp, lc, bs, gp, gc, gs⟩ := q
  obtain ⟨hlev, hzs⟩ := hq
  obtain ⟨t, ls, sq, lg, cut⟩ := s
  simp only at hlev hzs
  have hasc : AscK t := hI.tab
  have hfew : t.length < 8 := hI.few
  have h1 : cntL ls ≤ 2 * n := hS.cnt
  have h2 : (t ++ allRuns ls).length ≤ n := hS.ver
  have h3 : lg.length ≤ n := hS.log
  have h4 : I64 (sq + 1) := hS.seq
  have hlg : Stable (fun M w => Φ M w ∧ stF ⟨sb, tp, tc, lp, lc, bs, gp, gc, gs⟩ ⟨t, ls, sq, lg, cut⟩ M w) := instStableAnd Φ (fun M w => Elems M w gs lg ∧ LBE bs M w)
  have he0 : I64 sq ∨ True := .inr trivial
  refine (Bstore_Store_Put_run sb 0 k v (J := fun u w' => K (.returned u) w') cx ?_).mono fun e w' ⟨v, he, hj⟩ => by rw [he]; exact hj
  clear cx
  refine fun w G cx => ⟨sq, cx.get 0 rfl rfl, h4, fun w G cx => ⟨cx.can 0 rfl (by show 0 + 2 + 1 ≤ 5; omega), fun w' hw' => ?_⟩⟩
  have cx1 := cx.put 0 hw' rfl
  obtain ⟨T, hT⟩ : ∃ T, Own.buf lp bs.length lc (bs.map LB.cell) 84 1 :: (bs.map LB.own ++ (tabO tp tc t :: S)) = T := ⟨_, rfl⟩
  obtain ⟨G0, hG0⟩ : ∃ G0 : Value → Option Addr → Nat → Nat → List Value → List Own, ∀ x p m c cs, G0 x p m c cs = Own.blk sb [.slice tp t.length tc, .slice lp bs.length lc, x, .slice p m c, .int .i64 cut] 77 :: .buf gp lg.length gc gs 46 3 :: T := ⟨_, fun _ _ _ _ _ => rfl⟩
  have perm1 : ∀ (x y : Value) (o : Own) (G : List Own), (Own.blk sb [.slice tp t.length tc, .slice lp bs.length lc, x, y, .int .i64 cut] 77 :: Own.buf lp bs.length lc (bs.map LB.cell) 84 1 :: (bs.map LB.own ++ (tabO tp tc t :: o :: S)) ++ G).Perm (o :: Own.blk sb [.slice tp t.length tc, .slice lp bs.length lc, x, y, .int .i64 cut] 77 :: (T ++ G)) := fun x y o G => by
    rw [← hT]
    simp only [List.append_assoc, List.cons_append]
    have h := List.perm_middle (a := o) (l₁ := Own.blk sb [.slice tp t.length tc, .slice lp bs.length lc, x, y, .int .i64 cut] 77 :: Own.buf lp bs.length lc (bs.map LB.cell) 84 1 :: (bs.map LB.own ++ [tabO tp tc t])) (l₂ := S ++ G)
    simp only [List.append_assoc, List.cons_append, List.nil_append] at h
    exact h
  refine ⟨stA sb 77 (.slice tp t.length tc) lp lc (.int .i64 (sq + 1)) (.slice gp lg.length gc) (.int .i64 cut) bs (tabO tp tc t :: .buf gp lg.length gc gs 46 3 :: S), _, hlg, cx1, [Own.blk sb [.slice tp t.length tc, .slice lp bs.length lc, .int .i64 (sq + 1), .slice gp lg.length gc, .int .i64 cut] 77], fun _ _ => True, inferInstance, fun w G cx => (cx.sub (((List.nil_sublist _).cons_cons _).append_right G)).weak fun _ _ _ => trivial, gp, lg.length, gc, fun w G cx => ⟨_, _, _, cx.get 0 rfl rfl, rfl⟩, sq + 1, fun w G cx => ⟨_, cx.get 0 rfl rfl, rfl⟩, fun b => ⟨fun w G cx => (cx.drop1.sub (((List.nil_sublist _).cons_cons _).append_right G)).weak fun _ _ _ => trivial, fun w G cx => ?_⟩⟩
  clear cx1
  have cx2 : Ctx W w (.blk b (ChgD.cells ⟨sq + 1, k, v⟩) 46 :: .buf gp lg.length gc gs 46 3 :: (Own.blk sb [.slice tp t.length tc, .slice lp bs.length lc, .int .i64 (sq + 1), .slice gp lg.length gc, .int .i64 cut] 77 :: (T ++ G))) _ := cx.perm (List.Perm.cons _ (perm1 _ _ _ G))
  obtain ⟨gp', gc', w2, hr, _, cx3⟩ := cx2.app1 (ts := 31) (ty := 31) (kb := #[false, false]) (bytes := 40) (P := Tryz.prog) (by kernel_rfl) (by omega) rfl rfl (by omega) (by omega)
  have cx4 := (cx3.perm (perm1 _ _ _ G).symm).weak (Ψ := fun M w => Φ M w ∧ (Elems M w (gs ++ ChgD.cells ⟨sq + 1, k, v⟩) (lg ++ [(⟨sq + 1, k, v⟩ : ChgD)]) ∧ LBE bs M w)) fun M w h => ⟨h.1, h.2.1.snoc (chgD_rep h4 hk hv), h.2.2⟩
  have hlg2 : Stable (fun M w => Φ M w ∧ (Elems M w (gs ++ ChgD.cells ⟨sq + 1, k, v⟩) (lg ++ [(⟨sq + 1, k, v⟩ : ChgD)]) ∧ LBE bs M w)) := instStableAnd Φ (fun M w => Elems M w (gs ++ ChgD.cells ⟨sq + 1, k, v⟩) (lg ++ [(⟨sq + 1, k, v⟩ : ChgD)]) ∧ LBE bs M w)
  refine ⟨gp', _, gc', w2, hr, stA sb 77 (.slice tp t.length tc) lp lc (.int .i64 (sq + 1)) (.slice gp lg.length gc) (.int .i64 cut) bs (tabO tp tc t :: .buf gp' (lg.length + 1) gc' (gs ++ ChgD.cells ⟨sq + 1, k, v⟩) 46 3 :: S), _, hlg2, cx4, fun w G cx => (cx.sub (((List.nil_sublist _).cons_cons _).append_right G)).weak fun _ _ _ => trivial, fun w G cx => ⟨cx.can 0 rfl (by show 0 + 3 + 1 ≤ 5; omega), fun w' hw' => ?_⟩⟩
  clear cx2 cx3 cx4
  have cx5 := cx.put 0 hw' rfl
  -- the log is done
  obtain ⟨LG, hLG⟩ : ∃ LG, Own.buf gp' (lg.length + 1) gc' (gs ++ ChgD.cells ⟨sq + 1, k, v⟩) 46 3 = LG := ⟨_, rfl⟩
  obtain ⟨Φ2, hΦ2⟩ : ∃ Φ2 : PW, Φ2 = (fun M w => Φ M w ∧ Elems M w (gs ++ ChgD.cells ⟨sq + 1, k, v⟩) (lg ++ [(⟨sq + 1, k, v⟩ : ChgD)])) := ⟨_, rfl⟩
  have st2 : Stable Φ2 := by rw [hΦ2]; exact instStableAnd Φ (fun M w => Elems M w (gs ++ ChgD.cells ⟨sq + 1, k, v⟩) (lg ++ [(⟨sq + 1, k, v⟩ : ChgD)]))
  have st2b : ∀ bs : List LB, Stable (fun M w => Φ2 M w ∧ LBE bs M w) := fun bs => instStableAnd Φ2 (LBE bs)
  have cx6 : Ctx W w' (stA sb 77 (.slice tp t.length tc) lp lc (.int .i64 (sq + 1)) (.slice gp' (lg.length + 1) gc') (.int .i64 cut) bs (tabO tp tc t :: LG :: S) ++ G) (fun M w => Φ2 M w ∧ LBE bs M w) := by
    rw [← hLG]
    exact Ctx.weak (Ψ := fun M w => Φ2 M w ∧ LBE bs M w) cx5 fun M w h => by rw [hΦ2]; exact ⟨⟨h.1, h.2.1⟩, h.2.2⟩
  refine ⟨_, _, st2b bs, cx6, fun b w G cx => ⟨tp, t.length, tc, cx.get 0 rfl rfl, fun w G cx => ?_⟩⟩
  clear cx5 cx6
  have perm2 : ∀ (a : Value) (o : Own) (G : List Own), (stA sb 77 a lp lc (.int .i64 (sq + 1)) (.slice gp' (lg.length + 1) gc') (.int .i64 cut) bs (o :: LG :: S) ++ G).Perm (o :: (stA sb 77 a lp lc (.int .i64 (sq + 1)) (.slice gp' (lg.length + 1) gc') (.int .i64 cut) bs (LG :: S) ++ G)) := fun a o G => by
    unfold stA
    simp only [List.append_assoc, List.cons_append]
    exact List.perm_middle (l₁ := Own.blk sb [a, .slice lp bs.length lc, .int .i64 (sq + 1), .slice gp' (lg.length + 1) gc', .int .i64 cut] 77 :: Own.buf lp bs.length lc (bs.map LB.cell) 84 1 :: bs.map LB.own)
  have hput := put_low hasc ⟨k, v⟩
  have hlow := lowK_at hasc k
  obtain ⟨i, hi⟩ : ∃ i, lowK t k = i := ⟨_, rfl⟩
  simp only at hput
  rw [hi] at hput hlow
  refine find_tab k hasc hzs (by omega) (cx.perm (perm2 _ _ G)) fun w1 cx1 => ⟨_, _, by rw [hi], stA sb 77 (.slice tp t.length tc) lp lc (.int .i64 (sq + 1)) (.slice gp' (lg.length + 1) gc') (.int .i64 cut) bs (tabO tp tc t :: LG :: S), _, st2b bs, cx1.perm (perm2 _ _ G).symm, ?_⟩
  clear cx
  -- what settles
  have done : ∀ (tp2 : Option Addr) (tc2 : Nat) (t2 : Run) {w : World} {G : List Own} {K2 : Ending → World → Prop}, t2 = putK ⟨k, v⟩ t → Ctx W w (stA sb 77 (.slice tp2 t2.length tc2) lp lc (.int .i64 (sq + 1)) (.slice gp' (lg.length + 1) gc') (.int .i64 cut) bs (tabO tp2 tc2 t2 :: LG :: S) ++ G) (fun M w => Φ2 M w ∧ LBE bs M w) →
      (∀ R' w', Ctx W w' (R' ++ G) Φ → (∀ w (G : List Own), Ctx W w (R' ++ G) Φ → True) → True) → (∀ (q' : TO) w', q'.sb = sb → StQ q' (putS ⟨t, ls, sq, lg, cut⟩ k v) → Ctx W w' (stO q' (putS ⟨t, ls, sq, lg, cut⟩ k v) S ++ G) (fun M w => Φ M w ∧ stF q' (putS ⟨t, ls, sq, lg, cut⟩ k v) M w) → K2 (.returned (.tuple #[])) w') →
      Calls Tryz.prog F.store_Store_settle #[.pointer (some ⟨sb, 0, none⟩)] w K2 := fun tp2 tc2 t2 {w G K2} ht2 cx _ hK2 => by
    have hz2 : Szs t2 := fun x hx => by
      rw [ht2] at hx
      rcases putK_mem hx with rfl | hx
      · exact ⟨hk, hv⟩
      · exact hzs x hx
    have hl2 : t2.length ≤ t.length + 1 := by rw [ht2]; exact (putK_len _ _).2
    rw [List.length_append] at h2
    refine settle_use (Φ := Φ2) (S := LG :: S ++ G) (t := t2) (bs := bs) (sb := sb) (tS := 77) (tp := tp2) (tc := tc2) (lp := lp) (lc := lc) (c := .int .i64 (sq + 1)) (d := .slice gp' (lg.length + 1) gc') (e := .int .i64 cut) hz2 (by rw [hlev]; omega) (by rw [hlev, List.length_append]; omega) (cx.re (by unfold stA; simp only [List.append_assoc, List.cons_append])) fun tp' tc' lp' lc' bs' w' hb' cx2 => ?_
    rw [hlev] at hb'
    have e1 : putS ⟨t, ls, sq, lg, cut⟩ k v = ⟨settledT t2, settledL t2 ls, sq + 1, lg ++ [(⟨sq + 1, k, v⟩ : ChgD)], cut⟩ := by rw [ht2]; rfl
    rw [e1] at hK2
    refine hK2 ⟨sb, tp', tc', lp', lc', bs', gp', gc', gs ++ ChgD.cells ⟨sq + 1, k, v⟩⟩ w' rfl ⟨hb', fun x hx => ?_⟩ ?_
    · refine hz2 x ?_
      unfold settledT at hx
      split at hx
      · cases hx
      · exact hx
    · have el : (lg ++ [(⟨sq + 1, k, v⟩ : ChgD)]).length = lg.length + 1 := by rw [List.length_append]; rfl
      refine (cx2.re ?_).weak fun M w h => ?_
      · unfold stO stA
        simp only [List.append_assoc, List.cons_append, el, ← hLG]
      · rw [hΦ2] at h
        exact ⟨h.1.1, h.1.2, h.2⟩
  refine Br.intro (fun hf => fun w G cx => ?_) (fun hf => ?_)
  · -- the key is there
    rw [if_pos hf] at hput
    have hlt : i < t.length := by
      rcases Nat.lt_or_ge i t.length with h | h
      · exact h
      · unfold fndK at hf
        rw [hi, List.getElem?_eq_none h] at hf
        cases hf
    obtain ⟨g, hg⟩ := e_ptr (cx.perm (perm2 _ _ G)) (by rw [idxL_len]; omega)
    subst hg
    refine ⟨_, t.length, tc, cx.get 0 rfl rfl, ⟨by omega, by omega⟩, ptrK_intro g 0 rfl fun w G cx => ⟨by rw [Nat.zero_add, Int.toNat_natCast]; exact e_can (cx.perm (perm2 _ _ G)) (by rw [idxL_len]; omega), fun w' hw' => ?_⟩⟩
    rw [Nat.zero_add, Int.toNat_natCast] at hw'
    have cx7 := e_put (cx.perm (perm2 _ _ G)) (i := i) (by rw [idxL_len]; omega) ⟨⟨k, v⟩, i⟩ hw'
    have es : ∀ (m : Nat) (l : Run) (j : Nat), (idxL m l).set j ⟨⟨k, v⟩, m + j⟩ = idxL m (l.set j ⟨k, v⟩) := by
      intro m l
      induction l generalizing m with
      | nil => intro j; rfl
      | cons y l ih =>
        intro j
        cases j with
        | zero => rfl
        | succ j =>
          show ⟨y, m⟩ :: (idxL (m + 1) l).set j ⟨⟨k, v⟩, m + (j + 1)⟩ = ⟨y, m⟩ :: idxL (m + 1) (l.set j ⟨k, v⟩)
          rw [← ih (m + 1) j, show m + 1 + j = m + (j + 1) by omega]
    have es0 := es 0 t i
    rw [Nat.zero_add] at es0
    rw [es0, ← hput] at cx7
    have htl : (putK ⟨k, v⟩ t).length = t.length := by rw [hput, List.length_set]
    have cx8 : Ctx W w' (stA sb 77 (.slice (some ⟨g, 0, none⟩) (putK ⟨k, v⟩ t).length tc) lp lc (.int .i64 (sq + 1)) (.slice gp' (lg.length + 1) gc') (.int .i64 cut) bs (tabO (some ⟨g, 0, none⟩) tc (putK ⟨k, v⟩ t) :: LG :: S) ++ G) (fun M w => Φ2 M w ∧ LBE bs M w) := by
      rw [htl]
      exact cx7.perm (perm2 _ _ G).symm
    refine ⟨_, _, st2b bs, cx8, fun w G cx => done _ _ _ rfl cx (fun _ _ _ _ => trivial) fun q' w' hs hq2 cx9 => ⟨rfl, _, _, ?_, cx9, fun w G cx => hK q' w hs hq2 cx.left⟩⟩
    exact instStableAnd Φ (fun M w => Elems M w q'.gs (putS ⟨t, ls, sq, lg, cut⟩ k v).log ∧ LBE q'.bs M w)
  · -- a new key
    rw [if_neg (by rw [hf]; simp)] at hput
    refine ⟨[Own.blk sb [.slice tp t.length tc, .slice lp bs.length lc, .int .i64 (sq + 1), .slice gp' (lg.length + 1) gc', .int .i64 cut] 77], fun _ _ => True, inferInstance, fun w G cx => (cx.sub (((List.nil_sublist _).cons_cons _).append_right G)).weak fun _ _ _ => trivial, tp, t.length, tc, fun w G cx => ⟨_, _, _, cx.get 0 rfl rfl, rfl⟩, fun b => ⟨fun w G cx => (cx.drop1.sub (((List.nil_sublist _).cons_cons _).append_right G)).weak fun _ _ _ => trivial, fun w G cx => ?_⟩⟩
    have cx2 : Ctx W w (tabO tp tc t :: .blk b (PE.cells ⟨⟨k, v⟩, i⟩) 69 :: (stA sb 77 (.slice tp t.length tc) lp lc (.int .i64 (sq + 1)) (.slice gp' (lg.length + 1) gc') (.int .i64 cut) bs (LG :: S) ++ G)) (fun M w => Φ2 M w ∧ LBE bs M w) := cx.perm ((List.Perm.cons _ (perm2 _ _ G)).trans (List.Perm.swap _ _ _))
    have hins := Insert_use (x := ⟨⟨k, v⟩, i⟩) (i := i) (by rw [idxL_len]; omega) (by rw [idxL_len]; omega) cx2 (K := fun e w' => ∃ p' k' c', e = .returned (.slice p' k' c') ∧ k' = t.length + 1 ∧ Ctx W w' (tabO p' c' (t.take i ++ ⟨k, v⟩ :: t.drop i) :: (stA sb 77 (.slice tp t.length tc) lp lc (.int .i64 (sq + 1)) (.slice gp' (lg.length + 1) gc') (.int .i64 cut) bs (LG :: S) ++ G)) (fun M w => Φ2 M w ∧ LBE bs M w)) fun p' c' w' cx3 => ⟨p', _, c', rfl, by rw [idxL_len], by
      have ec : ∀ (es : List PE) (l : Run), es.map PE.d = l → cellsE es = cellsE (idxL 0 l) := fun es l h => by
        have : ∀ (a b : List PE), a.map PE.d = b.map PE.d → cellsE a = cellsE b := by
          intro a
          induction a with
          | nil => intro b hb; cases b with
            | nil => rfl
            | cons y b => cases hb
          | cons x a ih => intro b hb; cases b with
            | nil => cases hb
            | cons y b =>
              simp only [List.map_cons, List.cons.injEq] at hb
              show .string x.d.key :: .string x.d.val :: cellsE a = .string y.d.key :: .string y.d.val :: cellsE b
              rw [hb.1, ih b hb.2]
        exact this _ _ (by rw [h, idxL_d])
      have em : ((idxL 0 t).take i ++ (⟨⟨k, v⟩, i⟩ : PE) :: (idxL 0 t).drop i).map PE.d = t.take i ++ ⟨k, v⟩ :: t.drop i := by
        rw [List.map_append, List.map_cons, List.map_take, List.map_drop, idxL_d]
      have cx4 := cx3.swap.drop1
      have el : ((idxL 0 t).take i ++ (⟨⟨k, v⟩, i⟩ : PE) :: (idxL 0 t).drop i).length = (idxL 0 (t.take i ++ (⟨k, v⟩ : PairD) :: t.drop i)).length := by
        have := congrArg List.length em
        rw [List.length_map] at this
        rw [this, idxL_len]
      unfold bufE at cx4
      rw [ec _ _ em, el] at cx4
      exact cx4⟩
    rw [idxL_len] at hins
    refine hins.mono fun e w' ⟨p', k', c', he, hk', cx3⟩ => ?_
    subst hk'
    rw [← hput] at cx3
    have cx4 : Ctx W w' (stA sb 77 (.slice tp t.length tc) lp lc (.int .i64 (sq + 1)) (.slice gp' (lg.length + 1) gc') (.int .i64 cut) bs (tabO p' c' (putK ⟨k, v⟩ t) :: LG :: S) ++ G) (fun M w => Φ2 M w ∧ LBE bs M w) := cx3.perm (perm2 _ _ G).symm
    have htl : (putK ⟨k, v⟩ t).length = t.length + 1 := by rw [hput, List.length_append, List.length_cons, List.length_take, List.length_drop]; omega
    refine ⟨p', _, c', he, _, _, st2b bs, cx4, fun w G cx => (cx.sub (((List.nil_sublist _).cons_cons _).append_right G)).weak fun _ _ _ => trivial, fun w G cx => ⟨cx.can 0 rfl (by show 0 + 1 ≤ 5; omega), fun w' hw' => ?_⟩⟩
    have cx5 := cx.put 0 hw' rfl
    have cx6 : Ctx W w' (stA sb 77 (.slice p' (putK ⟨k, v⟩ t).length c') lp lc (.int .i64 (sq + 1)) (.slice gp' (lg.length + 1) gc') (.int .i64 cut) bs (tabO p' c' (putK ⟨k, v⟩ t) :: LG :: S) ++ G) (fun M w => Φ2 M w ∧ LBE bs M w) := by
      rw [htl]
      exact cx5
    refine ⟨_, _, st2b bs, cx6, fun w G cx => done _ _ _ rfl cx (fun _ _ _ _ => trivial) fun q' w' hs hq2 cx9 => ⟨rfl, _, _, ?_, cx9, fun w G cx => hK q' w hs hq2 cx.left⟩⟩
    exact instStableAnd Φ (fun M w => Elems M w q'.gs (putS ⟨t, ls, sq, lg, cut⟩ k v).log ∧ LBE q'.bs M w)
end Go.Proofs.YtebnciehcnedjaaGreatDoor
end

section
namespace Go.Proofs.YtebnciehcnedjaaGreatDoor
open Go.Vc
abbrev stRow (q : TO) (s : StD) : List Value := [.slice q.tp s.table.length q.tc, .slice q.lp s.levels.length q.lc, .int .i64 s.seq, .slice q.gp s.log.length q.gc, .int .i64 s.cut]
def StR (q : TO) (s : StD) : PW := fun M w => RowIn q.sb 0 (stRow q s) M w ∧ Sl M w q.tp s.table ∧ Sl M w q.lp s.levels ∧ Sl M w q.gp s.log
instance instStableStR (q : TO) (s : StD) : Stable (StR q s) :=
  instStableAnd (RowIn q.sb 0 (stRow q s)) (fun M w => Sl M w q.tp s.table ∧ Sl M w q.lp s.levels ∧ Sl M w q.gp s.log)
structure StC (q : TO) (s : StD) : Prop where
  tab : s.table.length ≤ q.tc ∧ q.tc ≤ maxLen
  lev : s.levels.length ≤ q.lc ∧ q.lc ≤ maxLen
  log : s.log.length ≤ q.gc ∧ q.gc ≤ maxLen
theorem stO_app (q : TO) (s : StD) (S : List Own) : stO q s S = stO q s [] ++ S := by
  unfold stO stA
  simp only [List.append_assoc, List.cons_append, List.nil_append]
theorem tab_elems {t : Run} (hz : Szs t) (M : List Nat) (w : World) : Elems M w (cellsE (idxL 0 t)) t := by
  have h := e_elems (M := M) (w := w) (es := idxL 0 t) fun x hx => pair_rep (hz x.d (by rw [← idxL_d 0 t]; exact List.mem_map.2 ⟨x, hx, rfl⟩))
  rw [idxL_d] at h
  exact h
theorem st_caps {W w : World} {S : List Own} {Φ : PW} {q : TO} {s : StD} (hq : StQ q s) (cx : Ctx W w (stO q s S) Φ) : StC q s := by
  have hl : q.bs.length = s.levels.length := by rw [← hq.lev, List.length_map]
  obtain ⟨_, a1, a2⟩ := cx.bufLen 1 rfl
  have hm1 : tabO q.tp q.tc s.table ∈ stO q s S := by unfold stO stA; simp
  have hm2 : Own.buf q.gp s.log.length q.gc q.gs 46 3 ∈ stO q s S := by unfold stO stA; simp
  obtain ⟨k1, e1⟩ := List.mem_iff_getElem?.1 hm1
  obtain ⟨k2, e2⟩ := List.mem_iff_getElem?.1 hm2
  obtain ⟨_, b1, b2⟩ := cx.bufLen k1 e1
  obtain ⟨_, c1, c2⟩ := cx.bufLen k2 e2
  rw [idxL_len] at b1
  exact ⟨⟨b1, b2⟩, ⟨by omega, a2⟩, ⟨c1, c2⟩⟩
theorem st_reads {W w : World} {Φ : PW} {q : TO} {s : StD} {M : List Nat} (hq : StQ q s) (hb : ∀ x ∈ q.bs, x.l.length ≤ x.c ∧ x.c ≤ maxLen) (h : Aside W (stO q s []) (fun M w => Φ M w ∧ stF q s M w) M w) : StR q s M w := by
  have hl : q.bs.length = s.levels.length := by rw [← hq.lev, List.length_map]
  have hf : stF q s (dom (stO q s []) ++ M) w := h.1.2
  have hm0 : Own.blk q.sb [.slice q.tp s.table.length q.tc, .slice q.lp q.bs.length q.lc, .int .i64 s.seq, .slice q.gp s.log.length q.gc, .int .i64 s.cut] 77 ∈ stO q s [] := by unfold stO stA; simp
  have hm1 : tabO q.tp q.tc s.table ∈ stO q s [] := by unfold stO stA; simp
  have hm2 : Own.buf q.gp s.log.length q.gc q.gs 46 3 ∈ stO q s [] := by unfold stO stA; simp
  have hm3 : Own.buf q.lp q.bs.length q.lc (q.bs.map LB.cell) 84 1 ∈ stO q s [] := by unfold stO stA; simp
  have hx : ∀ x ∈ q.bs, Sl M w x.p x.l := fun x hx => by
    have hm : x.own ∈ stO q s [] := by
      unfold stO stA
      have : x.own ∈ q.bs.map LB.own := List.mem_map.2 ⟨x, hx, rfl⟩
      simp only [List.mem_cons, List.mem_append]
      exact .inr (.inr (.inl this))
    exact Parked.sl (α := Run) (h.parked hm) (hf.2 x hx)
  refine ⟨?_, ?_, ?_, ?_⟩
  · have h1 := Parked.rowIn (o := 0) (vs := stRow q s) (h.parked hm0) fun j hj => by
      unfold stRow
      rw [← hl]
      simp
    exact h1
  · exact Parked.sl (α := PairD) (D := []) (h.parked hm1) (tab_elems hq.szs _ _)
  · rw [← hq.lev]
    have he : Elems M w (q.bs.map LB.cell) (q.bs.map LB.l) := by
      have hs : (Gv.ty Lev).size = 1 := rfl
      refine ⟨by rw [hs, List.length_map, List.length_map, Nat.mul_one], fun j hj => ?_⟩
      have hj2 : j < q.bs.length := by rw [List.length_map] at hj; exact hj
      rw [hs, Nat.mul_one, List.getElem_map, ← List.map_drop, List.drop_eq_getElem_cons hj2]
      exact rep_list.2 ⟨_, _, rfl, (hb _ (List.getElem_mem hj2)).1, (hb _ (List.getElem_mem hj2)).2, hx _ (List.getElem_mem hj2)⟩
    have h4 := Parked.sl (α := Lev) (D := []) (h.parked hm3) he
    exact h4
  · exact Parked.sl (α := ChgD) (h.parked hm2) hf.1
theorem st_bufs {W w : World} {S : List Own} {Φ : PW} {q : TO} {s : StD} (cx : Ctx W w (stO q s S) Φ) : ∀ x ∈ q.bs, x.l.length ≤ x.c ∧ x.c ≤ maxLen := fun x hx => by
  have hm : x.own ∈ stO q s S := by
    unfold stO stA
    have : x.own ∈ q.bs.map LB.own := List.mem_map.2 ⟨x, hx, rfl⟩
    simp only [List.mem_cons, List.mem_append]
    exact .inr (.inr (.inl this))
  obtain ⟨k, e⟩ := List.mem_iff_getElem?.1 hm
  exact (cx.bufLen k e).2
section
variable {Φ : PW} {q : TO} {s : StD}
theorem Seq_in [Stable Φ] [hΦ : Has Φ (StR q s)] : GivesIn Φ Tryz.prog F.store_Store_Seq #[.pointer (some ⟨q.sb, 0, none⟩)] (.int .i64 s.seq) :=
  gives_in (Bstore_Store_Seq_run q.sb 0) fun W R => fun w G cx => ⟨s.seq, (hΦ.go _ _ cx.phi).1.2.1 2 (by show 2 < 5; decide), fun w G cx => ⟨rfl, cx.left⟩⟩
end
theorem look {W w : World} {S : List Own} {Φ : PW} [Stable Φ] {q : TO} {s : StD} (hq : StQ q s) {f : FuncId} {args : Array Value} {v : Value} (cx : Ctx W w (stO q s S) (fun M w => Φ M w ∧ stF q s M w))
    (h : ∀ (Ψ : PW), Stable Ψ → Has Ψ (StR q s) → Has Ψ Φ → GivesIn Ψ Tryz.prog f args v) {K : Ending → World → Prop} (hK : ∀ w', Ctx W w' (stO q s S) (fun M w => Φ M w ∧ stF q s M w) → K (.returned v) w') : Calls Tryz.prog f args w K := by
  have hb := st_bufs cx
  have hst : Stable (fun M w => Φ M w ∧ stF q s M w) := instStableAnd Φ (fun M w => Elems M w q.gs s.log ∧ LBE q.bs M w)
  have cx1 := (cx.re (stO_app q s S)).aside
  have hst2 : Stable (Aside W (stO q s []) (fun M w => Φ M w ∧ stF q s M w)) := instStableAside W _ _
  exact (h _ hst2 ⟨fun M w h => st_reads hq hb h⟩ ⟨fun M w h => h.less.1⟩).use cx1 fun w' cx2 => hK w' (cx2.unaside.re (stO_app q s S).symm)
end Go.Proofs.YtebnciehcnedjaaGreatDoor
end

section
namespace Go.Vc
section
variable {W w : World} {S : List Own} {Φ : PW}
theorem Ctx.growN [Stable Φ] {P : Program} (c : Ctx W w S Φ) {ts tn ty t : TypeId} {kb : Array Bool} {size bytes : Nat} (hb : appB P ts t size bytes = true) (htn : P.underlying tn = some (.int .i64)) (m : Nat) (h0 : 0 < m) (hm : m ≤ 1000000) (hpos : 0 < size) (hbytes : bytes ≤ 1000) :
    ∃ g cap' w', Sem.run P (builtin Builtin.append #[ts, tn] ty kb #[.slice none 0 0, .int .i64 m]) w = .ok (.value (.slice (some ⟨g, 0, none⟩) m cap')) w' ∧ m ≤ cap' ∧ Ctx W w' (.buf (some ⟨g, 0, none⟩) 0 cap' [] t size :: S) Φ := by
  obtain ⟨i, z, e1, e2, e3, e4, e5, e6⟩ := appB_out hb
  subst e4
  have hmb : m * i.bytes ≤ 1000000 * 1000 := Nat.mul_le_mul hm (by omega)
  have hr := Go.Lib.run_append_nil_zeros (P := P) w ts tn ty t i z .i64 .i64 e1 htn e2 e3 m h0 hpos (by omega) (by omega)
  have hge := grownCap_ge w m 0 t
  have hcm : grownCap w m 0 t ≤ maxLen := grownCap_le_maxLen w m 0 t (by simp only [maxLen]; omega)
  have h := (c.buf0 t i.size).upd (k := 0) (o' := .buf (some ⟨w.heap.size, 0, none⟩) 0 (grownCap w m 0 t) [] t i.size) rfl (((Chg.refl _ _).drewN 1).alloc (.cells (Builtin.zeroCells z.cells m ++ Builtin.zeroCells z.cells (grownCap w m 0 t - m)) t)) (by simp [Own.dom]) (by simp [Own.dom])
    ⟨by simp, .inr ⟨w.heap.size, _, _, rfl, Nat.zero_le _, hp_alloc_new w.drew _, Nat.zero_le _, hcm, by
      simp only [Array.size_append, size_zeroCells, e5, ← Nat.add_mul]
      congr 1
      omega, by simp⟩⟩
  exact ⟨_, _, _, run_app hr, hge, h⟩
end
end Go.Vc
namespace Go.Proofs.YtebnciehcnedjaaGreatDoor
open Go.Vc
theorem pin_ls {M : List Nat} {w : World} {g o : Nat} {cs : List (List Value)} {ls : List Lev} (h : Pin g o cs ls M w) {j : Nat} (hj : j < ls.length) : ∃ p c, cs.getD j [] = [.slice p ls[j].length c] ∧ ls[j].length ≤ c ∧ c ≤ maxLen := by
  obtain ⟨_, h1, h2⟩ := h j hj
  obtain ⟨p, c, e, g1, g2, _⟩ := rep_list.1 h2
  exact ⟨p, c, e, g1, g2⟩
theorem pin_lsSl {M : List Nat} {w : World} {g o : Nat} {cs : List (List Value)} {ls : List Lev} (h : Pin g o cs ls M w) {j : Nat} (hj : j < ls.length) {p : Option Addr} {c : Nat} (e : cs.getD j [] = [.slice p ls[j].length c]) : Sl M w p ls[j] := by
  obtain ⟨_, h1, h2⟩ := h j hj
  obtain ⟨p', c', e', g1, g2, hs⟩ := rep_list.1 h2
  rw [e] at e'
  simp only [List.cons.injEq, Value.slice.injEq] at e'
  rw [e'.1.1]
  exact hs
theorem pin_lsAt {M : List Nat} {w : World} {g o : Nat} {cs : List (List Value)} {ls : List Lev} (h : Pin g o cs ls M w) {j : Nat} (hj : j < ls.length) {p : Option Addr} {c : Nat} (e : cs.getD j [] = [.slice p ls[j].length c]) : w.cell? ⟨g, o + j, none⟩ = some (.slice p ls[j].length c) := by
  obtain ⟨_, h1, h2⟩ := h j hj
  rw [e] at h1
  have := h1 0 (by simp)
  rw [show (Gv.ty Lev).size = 1 from rfl, Nat.mul_one] at this
  simpa using this
theorem lv_take (ls : List Lev) {i : Nat} (h : i < ls.length) : (ls.take (i + 1)).flatten = (ls.take i).flatten ++ ls[i] := by
  rw [List.take_succ_eq_append_getElem h, List.flatten_append]
  simp
theorem lv_le (ls : List Lev) (i : Nat) : (ls.take i).flatten.length ≤ ls.flatten.length := by
  have h : ls.flatten = (ls.take i).flatten ++ (ls.drop i).flatten := by rw [← List.flatten_append, List.take_append_drop]
  rw [h, List.length_append]
  omega
theorem GrowR_use {W w : World} {S : List Own} {Φ : PW} [Stable Φ] (n : Nat) (hn : n ≤ 1000000) (cx : Ctx W w S Φ) {K : Ending → World → Prop}
    (hK : ∀ p cap w', Ctx W w' (.buf p 0 cap [] 74 1 :: S) Φ → K (.returned (.slice p 0 cap)) w') : Calls Tryz.prog F.slices_Grow_store_run_store_run #[.slice none 0 0, .int .i64 n] w K := by
  refine (Bslices_Grow_store_run_store_run_run none 0 0 n (J := fun u w' => K (.returned u) w') cx ?_).mono fun e w' ⟨v, he, hj⟩ => by rw [he]; exact hj
  refine Br.intro (fun h => by have := of_decide_eq_true h; omega) (fun _ => ⟨by unfold I64; omega, by unfold I64; omega, Br.intro (fun h => ⟨by omega, fun w G cx => ?_⟩) (fun h => fun w G cx => hK _ _ _ (cx.left.buf0 74 1))⟩)
  have h := of_decide_eq_true h
  obtain ⟨g, cap', w', hrun, hge, cx'⟩ := Ctx.growN (P := Tryz.prog) (ts := 84) (tn := 3) (ty := 84) (t := 74) (kb := #[false, false]) (size := 1) (bytes := 24) cx (by kernel_rfl) (by kernel_rfl) n (by omega) hn (by omega) (by omega)
  have e : (n : Int) - (((0 : Nat) : Int) - ((0 : Nat) : Int)) = n := by omega
  rw [e]
  refine ⟨_, _, _, _, hrun, .buf (some ⟨g, 0, none⟩) 0 cap' [] 74 1 :: S, Φ, inferInstance, cx', by omega, fun w G cx => ?_⟩
  have hp : subPtr (some ⟨g, 0, none⟩) 1 0 cap' = some ⟨g, 0, none⟩ := by
    unfold subPtr
    split <;> rfl
  show K (.returned (.slice (subPtr (some ⟨g, 0, none⟩) 1 0 cap') 0 cap')) w
  rw [hp]
  exact hK _ _ _ cx.left
set_option maxHeartbeats 1000000 in
theorem Concat_sl {Φ : PW} [Stable Φ] {q : Option Addr} {cap : Nat} {ls : List Lev} (hΦ : ∀ M w, Φ M w → Sl M w q ls) (hn : ls.length ≤ 1000000) (hlen : ls.flatten.length ≤ 1000000) :
    GivesSl Φ Tryz.prog F.slices_Concat_store_run_store_run #[.slice q ls.length cap] ls.flatten id := by
  refine GivesSl.pinned hΦ fun g o cs hq => ⟨fun W0 w0 S0 c0 => ?_⟩
  have hcs : ∀ j, (hj : j < ls.length) → ∃ p c, cs.getD j [] = [.slice p ls[j].length c] ∧ ls[j].length ≤ c ∧ c ≤ maxLen := fun j hj => pin_ls c0.phi.2 hj
  refine GivesSl.go (gives_sl (Bslices_Concat_store_run_store_run_run q ls.length cap) fun W R => ?_) W0 w0 S0 c0
  clear c0
  have stP : Stable (fun M w => Φ M w ∧ Pin g o cs ls M w) := inferInstance
  refine exI_mk (fun n iI R' Φ' k => ∃ i : Nat, iI = i ∧ i ≤ ls.length ∧ n = ((ls.take i).flatten.length : Int) ∧ R' = R ∧ Φ' = (fun M w => Φ M w ∧ Pin g o cs ls M w) ∧ k = ls.length - i) ⟨⟨R, _, _, stP, fun w G cx => cx, 0, rfl, Nat.zero_le _, rfl, rfl, rfl, rfl⟩, ?_⟩
  rintro n iI R1 Φ1 k _ ⟨i, rfl, hi, rfl, rfl, rfl, rfl⟩
  refine Br.intro (fun hlt => ?_) (fun hge => ?_)
  · have hlt := of_decide_eq_true hlt
    have hlt : i < ls.length := by omega
    obtain ⟨p, c, he, h1, h2⟩ := hcs i hlt
    have hf := lv_take ls hlt
    have hfl : (ls.take (i + 1)).flatten.length = (ls.take i).flatten.length + ls[i].length := by rw [hf, List.length_append]
    have hle := lv_le ls (i + 1)
    refine ⟨by omega, ptrK_intro g o (hq (by omega)) fun w G cx => ⟨p, ls[i].length, c, by rw [Int.toNat_natCast]; exact pin_lsAt cx.phi.2 hlt he, by unfold I64; omega, Br.intro (fun h => by have := of_decide_eq_true h; omega) (fun _ => ⟨by unfold I64; omega, R1, _, ls.length - (i + 1), stP, fun w G cx => cx, ⟨i + 1, by omega, hlt, by omega, rfl, rfl, rfl⟩, by omega⟩)⟩⟩
  have hge := of_decide_eq_false hge
  have hi : i = ls.length := by omega
  subst hi
  rw [List.take_length]
  clear hge
  refine fun w G cx => GrowR_use ls.flatten.length hlen cx fun p0 cap0 w cx => ⟨p0, 0, cap0, rfl, .buf p0 0 cap0 [] 74 1 :: R1, _, stP, cx, ?_⟩
  clear cx
  have stE : ∀ (ds : List Value) (l : Lev), Stable (fun M w => (Φ M w ∧ Pin g o cs ls M w) ∧ Elems M w ds l) := fun ds l => instStableAnd (fun M w => Φ M w ∧ Pin g o cs ls M w) (fun M w => Elems M w ds l)
  refine exI_mk (fun sp sn sc iI R' Φ' k => ∃ (i : Nat) (ds : List Value), iI = i ∧ i ≤ ls.length ∧ sn = (ls.take i).flatten.length ∧ R' = .buf sp sn sc ds 74 1 :: R1 ∧ Φ' = (fun M w => (Φ M w ∧ Pin g o cs ls M w) ∧ Elems M w ds (ls.take i).flatten) ∧ k = ls.length - i)
    ⟨⟨.buf p0 0 cap0 [] 74 1 :: R1, _, _, stE [] (ls.take 0).flatten, fun w G cx => cx.weak fun M w h => ⟨h, Elems.nil⟩, 0, [], rfl, Nat.zero_le _, rfl, rfl, rfl, rfl⟩, ?_⟩
  rintro sp _ sc iI R2 Φ2 k _ ⟨i, ds, rfl, hi, rfl, rfl, rfl, rfl⟩
  refine Br.intro (fun hlt => ?_) (fun hge => fun w G cx => ?_)
  · have hlt := of_decide_eq_true hlt
    have hlt : i < ls.length := by omega
    obtain ⟨p, c, he, h1, h2⟩ := hcs i hlt
    have hf := lv_take ls hlt
    have hfl : (ls.take (i + 1)).flatten.length = (ls.take i).flatten.length + ls[i].length := by rw [hf, List.length_append]
    have hle := lv_le ls (i + 1)
    refine ⟨by omega, ptrK_intro g o (hq (by omega)) fun w G cx => ⟨p, ls[i].length, c, by rw [Int.toNat_natCast]; exact pin_lsAt cx.phi.1.2 hlt he, fun w G cx => ?_⟩⟩
    have happ := Ctx.appAnyV (α := Run) (P := Tryz.prog) (ts := 84) (tv := 84) (ty := 84) (u := 74) (kb := #[false, false]) (bytes := 24) (c2 := c) (l := ls[i]) (q := p) cx (by kernel_rfl) (by kernel_rfl) run_one (fun M w h => pin_lsSl h.1.2 hlt he) (by omega) (by omega)
    rw [← hfl] at happ
    obtain ⟨p', cap', w', news, hrun, cx'⟩ := happ
    exact ⟨p', _, cap', w', hrun, .buf p' (ls.take (i + 1)).flatten.length cap' (ds ++ news) 74 1 :: R1, _, stE (ds ++ news) (ls.take (i + 1)).flatten, cx'.weak fun M w h => ⟨h.1.1, by rw [hf]; exact h.1.2.append h.2⟩, by unfold I64; omega, _, _, ls.length - (i + 1), stE _ _, fun w G cx => cx, ⟨i + 1, _, by omega, hlt, rfl, rfl, rfl, rfl⟩, by omega⟩
  · have hge := of_decide_eq_false hge
    have hi : i = ls.length := by omega
    subst hi
    rw [List.take_length] at cx ⊢
    obtain ⟨c1, hs, _, h2, h3⟩ := Ctx.freeze (α := Run) cx cx.phi.2
    exact ⟨sp, sc, rfl, h2, h3, ((c1.add hs).weak (Ψ := fun M w => (Φ M w ∧ Pin g o cs ls M w) ∧ Sl M w sp ls.flatten) fun M w h => ⟨h.1.1, h.2⟩).left⟩
end Go.Proofs.YtebnciehcnedjaaGreatDoor
end

section
namespace Go.Proofs.YtebnciehcnedjaaGreatDoor
open Go.Vc
section
variable {Φ : PW} {q : TO} {s : StD}
set_option maxHeartbeats 1000000 in
theorem runs_sl [Stable Φ] [hΦ : Has Φ (StR q s)] (hC : StC q s) (hn : s.levels.length ≤ 1000000) (hl : s.levels.flatten.length ≤ 900000) : GivesSl Φ Tryz.prog F.store_Store_runs #[.pointer (some ⟨q.sb, 0, none⟩)] (runsP s) id := by
  refine gives_sl (Bstore_Store_runs_run q.sb 0) fun W R => ?_
  have hcon := Concat_sl (Φ := Φ) (q := q.lp) (cap := q.lc) (ls := s.levels) (fun M w h => (hΦ.go M w h).2.2.1) hn (by omega)
  have hrl : (runsP s).length = 1 + s.levels.flatten.length := by unfold runsP; rw [List.length_cons]; omega
  have stF2 : ∀ (p : Option Addr), Stable (fun M w => Φ M w ∧ Sl M w p s.levels.flatten) := fun p => instStableAnd Φ (fun M w => Sl M w p s.levels.flatten)
  have stF3 : ∀ (p : Option Addr), Stable (fun M w => Φ M w ∧ Sl M w p (runsP s)) := fun p => instStableAnd Φ (fun M w => Sl M w p (runsP s))
  have tail : ∀ (k : Nat) (p : Option Addr) (c : Nat) {w : World} {G : List Own}, Ctx W w (Own.blk k [.slice q.tp s.table.length q.tc] 74 :: R ++ G) (fun M w => Φ M w ∧ Sl M w p s.levels.flatten) →
      ∃ p' cap' w', Sem.run Tryz.prog (builtin Builtin.append #[84, 84] 84 #[false, false] #[.slice (some ⟨k, 0, none⟩) 1 1, .slice p s.levels.flatten.length c]) w = .ok (.value (.slice p' (runsP s).length cap')) w' ∧ (runsP s).length ≤ cap' ∧ cap' ≤ maxLen ∧ Ctx W w' (R ++ G) (fun M w => Φ M w ∧ Sl M w p' (runsP s)) := fun k p c {w G} cx => by
    have cx1 : Ctx W w (.buf (some ⟨k, 0, none⟩) 1 1 [.slice q.tp s.table.length q.tc] 74 1 :: (R ++ G)) (fun M w => Φ M w ∧ Sl M w p s.levels.flatten) := cx.toBuf 0 1 1 rfl rfl (by simp [maxLen])
    obtain ⟨p', cap', w', news, hr, cx2⟩ := Ctx.appAnyV (α := Run) (P := Tryz.prog) (ts := 84) (tv := 84) (ty := 84) (u := 74) (kb := #[false, false]) (bytes := 24) (c2 := c) (l := s.levels.flatten) (q := p) cx1 (by kernel_rfl) (by kernel_rfl) run_one (fun M w h => h.2) (by omega) (by omega)
    have he : Elems (dom (Own.buf p' (1 + s.levels.flatten.length) cap' ([.slice q.tp s.table.length q.tc] ++ news) 74 1 :: (R ++ G))) w' (Value.slice q.tp s.table.length q.tc :: news) (runsP s) := elems_cons (rep_list.2 ⟨q.tp, q.tc, rfl, hC.tab.1, hC.tab.2, (hΦ.go _ _ cx2.phi.1.1).2.1⟩) cx2.phi.2
    obtain ⟨c1, hs, e, h2, h3⟩ := Ctx.freeze (α := Run) (l := runsP s) cx2 he
    rw [← hrl] at hr h2
    exact ⟨p', cap', w', hr, h2, h3, (c1.add hs).weak fun M w h => ⟨h.1.1.1, h.2⟩⟩
  refine ⟨[], Φ, inferInstance, fun w G cx => Ctx.right (S := R) cx, q.tp, s.table.length, q.tc, fun w G cx => ⟨_, _, _, (hΦ.go _ _ cx.phi).1.2.1 0 (by show 0 < 5; decide), rfl⟩, q.lp, s.levels.length, q.lc, fun w G cx => ⟨_, _, _, (hΦ.go _ _ cx.phi).1.2.1 1 (by show 1 < 5; decide), rfl⟩, fun k => ⟨fun w G cx => Ctx.right (S := Own.blk k [.slice q.tp s.table.length q.tc] 74 :: R) cx, fun w G cx => ?_, trivial⟩, fun w G cx => ?_, trivial⟩
  · refine hcon.use cx fun p c w g1 g2 cx => ⟨p, _, c, rfl, Own.blk k [.slice q.tp s.table.length q.tc] 74 :: R, _, stF2 p, cx, fun w G cx => (Ctx.right (S := Own.blk k [.slice q.tp s.table.length q.tc] 74 :: R) cx).weak fun M w h => h.1, fun w G cx => ?_, trivial⟩
    obtain ⟨p', cap', w', hr, h2, h3, cx2⟩ := tail k p c cx
    exact ⟨p', _, cap', w', hr, R, _, stF3 p', cx2, fun w G cx => (Ctx.right (S := R) cx).weak fun M w h => h.1, fun w G cx => ⟨p', cap', rfl, h2, h3, cx.left⟩⟩
  · refine hcon.use cx fun p c w g1 g2 cx => ⟨p, _, c, rfl, R, _, stF2 p, cx, fun w G cx => (Ctx.right (S := R) cx).weak fun M w h => h.1, fun k => ⟨fun w G cx => (Ctx.right (S := Own.blk k [.slice q.tp s.table.length q.tc] 74 :: R) cx).weak fun M w h => h.1, fun w G cx => ?_, trivial⟩, trivial⟩
    obtain ⟨p', cap', w', hr, h2, h3, cx2⟩ := tail k p c cx
    exact ⟨p', _, cap', w', hr, R, _, stF3 p', cx2, fun w G cx => (Ctx.right (S := R) cx).weak fun M w h => h.1, fun w G cx => ⟨p', cap', rfl, h2, h3, cx.left⟩⟩
theorem flat_sum (rs : List Run) {i : Nat} (h : i < rs.length) : (rs.take (i + 1)).flatten.length = (rs.take i).flatten.length + rs[i].length := by rw [fl_take rs h, List.length_append]
theorem Versions_in [Stable Φ] [hΦ : Has Φ (StR q s)] (hC : StC q s) (hn : s.levels.length ≤ 1000000) (hl : s.levels.flatten.length ≤ 900000) (hv : (verP s).length ≤ 40000000) : GivesIn Φ Tryz.prog F.store_Store_Versions #[.pointer (some ⟨q.sb, 0, none⟩)] (.int .i64 ((verP s).length : Int)) := by
  refine gives_in (Bstore_Store_Versions_run q.sb 0) fun W R => fun w G cx => ?_
  refine (runs_sl hC hn hl).use cx fun p c w g1 g2 cx => ?_
  obtain ⟨g, o, cs, hp, cx⟩ := cx.pin cx.phi.2
  have st : Stable (fun M w => (Φ M w ∧ Sl M w p (runsP s)) ∧ Pin g o cs (runsP s) M w) := instStableAnd (fun M w => Φ M w ∧ Sl M w p (runsP s)) (fun M w => Pin g o cs (runsP s) M w)
  refine ⟨p, _, c, rfl, R, _, st, cx, ?_⟩
  clear cx
  have hrl : (runsP s).length ≤ 1000000 := by unfold runsP; rw [List.length_cons]; omega
  have hfv : (runsP s).flatten.length = (verP s).length := by rw [runs_ver]
  refine exI_mk (fun n iI R' Φ' k => ∃ i : Nat, iI = i ∧ i ≤ (runsP s).length ∧ n = (((runsP s).take i).flatten.length : Int) ∧ R' = R ∧ Φ' = (fun M w => (Φ M w ∧ Sl M w p (runsP s)) ∧ Pin g o cs (runsP s) M w) ∧ k = (runsP s).length - i) ⟨⟨R, _, _, st, fun w G cx => cx, 0, rfl, Nat.zero_le _, rfl, rfl, rfl, rfl⟩, ?_⟩
  rintro n iI R1 Φ1 k _ ⟨i, rfl, hi, rfl, rfl, rfl, rfl⟩
  refine Br.intro (fun hlt => ?_) (fun hge => fun w G cx => ?_)
  · have hlt : i < (runsP s).length := by have := of_decide_eq_true hlt; omega
    have hs := flat_sum (runsP s) hlt
    have hle := fl_le (runsP s) (i + 1)
    refine ⟨⟨by omega, by omega⟩, ptrK_intro g o (hp (by omega)) fun w G cx => ?_⟩
    obtain ⟨p1, c1, e, _, _⟩ := pin_rs cx.phi.2 hlt
    exact ⟨p1, (runsP s)[i].length, c1, by rw [Int.toNat_natCast]; exact pin_rsAt cx.phi.2 hlt e, by unfold I64; omega, by unfold I64; omega, R1, _, (runsP s).length - (i + 1), st, fun w G cx => cx, ⟨i + 1, by omega, by omega, by omega, rfl, rfl, rfl⟩, by omega⟩
  · have hge : i = (runsP s).length := by have := of_decide_eq_false hge; omega
    subst hge
    rw [List.take_length, hfv]
    exact ⟨rfl, cx.left.weak fun M w h => h.1.1⟩
end
end Go.Proofs.YtebnciehcnedjaaGreatDoor
end

section
namespace Go.Proofs.YtebnciehcnedjaaGreatDoor
open Go.Vc
theorem runs_asc {s : StD} (hI : StI s) : ∀ r ∈ runsP s, AscK r := fun r hr => by
  rcases List.mem_cons.1 hr with rfl | hr
  · exact hI.tab
  · obtain ⟨l, hl, hr⟩ := List.mem_flatten.1 hr
    exact hI.lev.asc l hl r hr
theorem look_skip (rs : List Run) (k : ByteArray) : ∀ i, i ≤ rs.length → (∀ j (h : j < rs.length), j < i → lookV rs[j] k = none) → lookV rs.flatten k = lookV (rs.drop i).flatten k
  | 0, _, _ => rfl
  | i + 1, hi, h => by
    have h1 := look_skip rs k i (by omega) fun j hj hji => h j hj (by omega)
    have hlt : i < rs.length := by omega
    rw [h1, List.drop_eq_getElem_cons hlt, List.flatten_cons, lookV_app, h i hlt (by omega)]
    rfl
section
variable {Φ : PW} {q : TO} {s : StD}
theorem Get_in [Stable Φ] [hΦ : Has Φ (StR q s)] (hC : StC q s) (hI : StI s) (hn : s.levels.length ≤ 1000000) (hl : s.levels.flatten.length ≤ 900000) (hv : (verP s).length ≤ 40000000) (key : ByteArray) : GivesIn Φ Tryz.prog F.store_Store_Get #[.pointer (some ⟨q.sb, 0, none⟩), .string key] (.string (getS s key)) := by
  refine gives_in (Bstore_Store_Get_run q.sb 0 key) fun W R => fun w G cx => ?_
  refine (runs_sl hC hn hl).use cx fun p c w g1 g2 cx => ?_
  obtain ⟨g, o, cs, hp, cx⟩ := cx.pin cx.phi.2
  have st : Stable (fun M w => (Φ M w ∧ Sl M w p (runsP s)) ∧ Pin g o cs (runsP s) M w) := instStableAnd (fun M w => Φ M w ∧ Sl M w p (runsP s)) (fun M w => Pin g o cs (runsP s) M w)
  refine ⟨p, _, c, rfl, R, _, st, cx, ?_⟩
  clear cx
  have hrl : (runsP s).length ≤ 1000000 := by unfold runsP; rw [List.length_cons]; omega
  have hfv : (runsP s).flatten = verP s := runs_ver s
  have hfl : (runsP s).flatten.length ≤ 40000000 := by rw [hfv]; exact hv
  refine exI_mk (fun n R' Φ' k => ∃ i : Nat, n = i ∧ i ≤ (runsP s).length ∧ (∀ j (h : j < (runsP s).length), j < i → lookV (runsP s)[j] key = none) ∧ R' = R ∧ Φ' = (fun M w => (Φ M w ∧ Sl M w p (runsP s)) ∧ Pin g o cs (runsP s) M w) ∧ k = (runsP s).length - i) ⟨⟨R, _, _, st, fun w G cx => cx, 0, rfl, Nat.zero_le _, fun j h h2 => by omega, rfl, rfl, rfl⟩, ?_⟩
  rintro n R1 Φ1 k _ ⟨i, rfl, hi, hno, rfl, rfl, rfl⟩
  have hskip := look_skip (runsP s) key i hi hno
  rw [hfv] at hskip
  refine Br.intro (fun hlt => ?_) (fun hge => fun w G cx => ?_)
  · have hlt : i < (runsP s).length := by have := of_decide_eq_true hlt; omega
    have hs := flat_sum (runsP s) hlt
    have hle := fl_le (runsP s) (i + 1)
    refine ⟨⟨by omega, by omega⟩, ptrK_intro g o (hp (by omega)) fun w G cx => ?_⟩
    obtain ⟨p1, c1, e, _, _⟩ := pin_rs cx.phi.2 hlt
    have hrA := runs_asc hI _ (List.getElem_mem hlt)
    refine ⟨p1, (runsP s)[i].length, c1, by rw [Int.toNat_natCast]; exact pin_rsAt cx.phi.2 hlt e, fun w G cx => ?_⟩
    have hth := (pin_rsSl cx.phi.2 hlt e).there
    have hlk := fnd_look hrA key
    refine (find_in (Φ := fun M w => (Φ M w ∧ Sl M w p (runsP s)) ∧ Pin g o cs (runsP s) M w) key (hΦ := ⟨fun M w h => pin_rsSl h.2 hlt e⟩) hrA (by omega)).use cx fun w cx => ⟨_, _, rfl, R1, _, st, cx, Br.intro (fun hf => ?_) (fun hf => ?_)⟩
    · rw [if_pos hf] at hlk
      have hlo : lowK (runsP s)[i] key < (runsP s)[i].length := by
        rcases Nat.lt_or_ge (lowK (runsP s)[i] key) (runsP s)[i].length with h | h
        · exact h
        · unfold fndK at hf
          rw [List.getElem?_eq_none h] at hf
          cases hf
      rw [List.getElem?_eq_getElem hlo] at hlk
      obtain ⟨b, ob, hpb⟩ := hth (by omega)
      refine ⟨⟨by omega, by omega⟩, ptrK_intro b ob hpb fun w G cx => ⟨_, by rw [Int.toNat_natCast]; exact sl_pair (by rw [← hpb]; exact pin_rsSl cx.phi.2 hlt e) hlo 1 (by show 1 < 2; decide), fun w G cx => ⟨?_, cx.left.weak fun M w h => h.1.1⟩⟩⟩
      unfold getS valK
      rw [hskip, List.drop_eq_getElem_cons hlt, List.flatten_cons, lookV_app, hlk]
      rfl
    · rw [if_neg (by rw [hf]; simp)] at hlk
      exact ⟨by unfold I64; omega, R1, _, (runsP s).length - (i + 1), st, fun w G cx => cx, ⟨i + 1, by omega, by omega, fun j hj hji => by
        by_cases e : j = i
        · subst e; exact hlk
        · exact hno j hj (by omega), rfl, rfl, rfl⟩, by omega⟩
  · have hge : i = (runsP s).length := by have := of_decide_eq_false hge; omega
    refine ⟨?_, cx.left.weak fun M w h => h.1.1⟩
    unfold getS valK
    rw [hskip, List.drop_of_length_le (by omega)]
    rfl
end
theorem New_use {W w : World} {S : List Own} {Φ : PW} [Stable Φ] (cx : Ctx W w S Φ) {K : Ending → World → Prop}
    (hK : ∀ q w', StQ q stNew → Ctx W w' (stO q stNew S) (fun M w => Φ M w ∧ stF q stNew M w) → K (.returned (.pointer (some ⟨q.sb, 0, none⟩))) w') : Calls Tryz.prog F.store_New #[] w K := by
  refine (Bstore_New_run (J := fun u w' => K (.returned u) w') cx ?_).mono fun e w' ⟨v, he, hj⟩ => by rw [he]; exact hj
  intro k w G cx
  have c1 := ((((cx.left.nobuf 46 3).nobuf 69 2).nobuf 84 1))
  refine hK ⟨k, none, 0, none, 0, [], none, 0, []⟩ w ⟨rfl, fun x hx => by cases hx⟩ ?_
  refine (c1.perm ?_).weak fun M w h => ⟨h, Elems.nil, fun x hx => by cases hx⟩
  -- .buf lev :: .buf tab :: .buf log :: .blk :: S
  show (Own.buf none 0 0 [] 84 1 :: Own.buf none 0 0 [] 69 2 :: Own.buf none 0 0 [] 46 3 :: Own.blk k [.slice none 0 0, .slice none 0 0, .int .i64 0, .slice none 0 0, .int .i64 0] 77 :: S).Perm (Own.blk k [.slice none 0 0, .slice none 0 0, .int .i64 0, .slice none 0 0, .int .i64 0] 77 :: Own.buf none 0 0 [] 84 1 :: Own.buf none 0 0 [] 69 2 :: Own.buf none 0 0 [] 46 3 :: S)
  exact List.perm_middle (l₁ := [Own.buf none 0 0 [] 84 1, Own.buf none 0 0 [] 69 2, Own.buf none 0 0 [] 46 3])
def applyS (s : StD) (n : Int) (k v : ByteArray) : Int × StD := if n = s.seq + 1 then (0, putS s k v) else (25, s)
theorem apply_use {W w : World} {S : List Own} {Φ : PW} [Stable Φ] {q : TO} {s : StD} {n : Nat} (hq : StQ q s) (hI : StI s) (hS : StS s n) (hn : n ≤ 400) {m : Int} {k v : ByteArray} (hk : k.size ≤ maxLen) (hv : v.size ≤ maxLen)
    (cx : Ctx W w (stO q s S) (fun M w => Φ M w ∧ stF q s M w)) {K : Ending → World → Prop}
    (hK : ∀ q' w', q'.sb = q.sb → StQ q' (applyS s m k v).2 → Ctx W w' (stO q' (applyS s m k v).2 S) (fun M w => Φ M w ∧ stF q' (applyS s m k v).2 M w) → K (.returned (.int .i64 (applyS s m k v).1)) w') :
    Calls Tryz.prog F.store_Store_Apply #[.pointer (some ⟨q.sb, 0, none⟩), .agg #[.int .i64 m, .string k, .string v]] w K := by
  refine (Bstore_Store_Apply_run q.sb 0 m k v (J := fun u w' => K (.returned u) w') cx ?_).mono fun e w' ⟨v, he, hj⟩ => by rw [he]; exact hj
  clear cx
  refine fun b w G cx => ⟨s.seq, cx.get 0 rfl rfl, hS.seq, Br.intro (fun h => fun w G cx => ?_) (fun h => fun w G cx => ?_)⟩
  · have h : ¬ m = s.seq + 1 := of_decide_eq_true h
    unfold applyS at hK
    rw [if_neg h] at hK
    exact hK q w rfl hq cx.left
  · have h : m = s.seq + 1 := Decidable.not_not.1 (of_decide_eq_false h)
    unfold applyS at hK
    rw [if_pos h] at hK
    have e1 : ∀ (q : TO) (s : StD), stO q s S ++ G = stO q s (S ++ G) := fun q s => by unfold stO stA; simp only [List.append_assoc, List.cons_append]
    refine put_use hq hI hS hn hk hv (S := S ++ G) (Φ := Φ) (cx.re (e1 q s)) fun q' w' hs hq' cx2 => ⟨rfl, stO q' (putS s k v) S, _, ?_, cx2.re (e1 q' _).symm, fun w G cx => hK q' w hs hq' cx.left⟩
    exact instStableAnd Φ (fun M w => Elems M w q'.gs (putS s k v).log ∧ LBE q'.bs M w)
end Go.Proofs.YtebnciehcnedjaaGreatDoor
end

section
namespace Go.Proofs.YtebnciehcnedjaaGreatDoor
open Go.Vc
theorem chgD_cells {M : List Nat} {w : World} {cs : List Value} {x : ChgD} (h : Gv.rep M w cs x) : cs = x.cells := by
  obtain ⟨_, _, rfl, ⟨rfl, _⟩, _, _, rfl, ⟨rfl, _⟩, rfl, _⟩ := h
  rfl
theorem chgD_one (M : List Nat) (w : World) (cs : List Value) (x : ChgD) (h : Gv.rep M w cs x) : (cs.all fun u => oneC u) = true := by
  rw [chgD_cells h]; rfl
theorem CloneC_use {W w : World} {S : List Own} {Φ : PW} [Stable Φ] {p : Option Addr} {cap : Nat} {l : List ChgD} (hΦ : ∀ M w, Φ M w → Sl M w p l) (hl : l.length < 100000000) (cx : Ctx W w S Φ) {K : Ending → World → Prop}
    (hK : ∀ p' cap' cs w', Ctx W w' (.buf p' l.length cap' cs 46 3 :: S) (fun M w => Φ M w ∧ Elems M w cs l) → K (.returned (.slice p' l.length cap')) w') :
    Calls Tryz.prog F.slices_Clone_api_Change_api_Change #[.slice p l.length cap] w K := by
  have ht := (hΦ _ _ cx.phi).there
  refine (Bslices_Clone_api_Change_api_Change_run p l.length cap (J := fun u w' => K (.returned u) w') cx ?_).mono fun e w' ⟨v, he, hj⟩ => by rw [he]; exact hj
  refine Br.intro (fun hn => fun w G cx => ?_) (fun _ => fun k w G cx => ?_)
  · have h0 : l = [] := by
      rcases Nat.eq_zero_or_pos l.length with h | h
      · exact List.eq_nil_of_length_eq_zero h
      · obtain ⟨b, o, e⟩ := ht h
        rw [e] at hn
        cases hn
    subst h0
    exact hK none 0 [] w ((cx.left.nobuf 46 3).add Elems.nil)
  · obtain ⟨p', cap', w', cs, hr, cx2⟩ := Ctx.cloned (α := ChgD) cx (P := Tryz.prog) (ts := 31) (ty := 31) (kb := #[false, false]) (c2 := cap) (bytes := 40) (by kernel_rfl) chgD_one hΦ hl (by omega)
    have hst : Stable (fun M w => Φ M w ∧ Elems M w cs l) := instStableAnd Φ (fun M w => Elems M w cs l)
    exact ⟨p', _, cap', w', hr, .buf p' l.length cap' cs 46 3 :: S, _, hst, cx2, fun w G cx => hK p' cap' cs w cx.left⟩
structure StL (s : StD) : Prop where
  le : s.cut ≤ s.seq
  len : (s.log.length : Int) = s.seq - s.cut
  num : ∀ j (h : j < s.log.length), s.log[j].seq = s.cut + 1 + j
theorem new_l : StL stNew := ⟨Int.le_refl _, rfl, fun j h => by cases h⟩
theorem put_l {s : StD} (h : StL s) (k v : ByteArray) : StL (putS s k v) := by
  have h1 := h.le
  have h2 := h.len
  have e : (putS s k v).log = s.log ++ [(⟨s.seq + 1, k, v⟩ : ChgD)] := rfl
  refine ⟨by show s.cut ≤ s.seq + 1; omega, by rw [e, List.length_append]; show ((s.log.length + 1 : Nat) : Int) = s.seq + 1 - s.cut; omega, fun j hj => ?_⟩
  show ((putS s k v).log[j]).seq = s.cut + 1 + j
  simp only [e]
  rw [e, List.length_append] at hj
  rcases Nat.lt_or_ge j s.log.length with h3 | h3
  · rw [List.getElem_append_left h3]; exact h.num j h3
  · have : j = s.log.length := by simp at hj; omega
    subst this
    rw [List.getElem_append_right (Nat.le_refl _)]
    simp
    omega
def cutS (s : StD) (n : Int) : Int := min (max n s.cut) s.seq
def trimS (s : StD) (n : Int) : StD := { s with log := s.log.drop (cutS s n - s.cut).toNat, cut := cutS s n }
theorem trim_l {s : StD} (h : StL s) (n : Int) : StL (trimS s n) := by
  have h1 := h.le
  have h2 := h.len
  have h3 : s.cut ≤ cutS s n ∧ cutS s n ≤ s.seq := by unfold cutS; omega
  refine ⟨h3.2, by show ((s.log.drop _).length : Int) = s.seq - cutS s n; rw [List.length_drop]; omega, fun j hj => ?_⟩
  have hj : j < (s.log.drop (cutS s n - s.cut).toNat).length := hj
  show ((s.log.drop (cutS s n - s.cut).toNat)[j]).seq = cutS s n + 1 + j
  rw [List.length_drop] at hj
  rw [List.getElem_drop, h.num _ (by omega)]
  omega
section
variable {Φ : PW} {q : TO} {s : StD}
theorem Since_no [Stable Φ] [hΦ : Has Φ (StR q s)] {n : Int} (h : n < s.cut ∨ s.seq < n) : GivesIn Φ Tryz.prog F.store_Store_Since #[.pointer (some ⟨q.sb, 0, none⟩), .int .i64 n] (.tuple #[.slice none 0 0, .int .i64 3]) := by
  refine gives_in (Bstore_Store_Since_run q.sb 0 n) fun W R => fun w G cx => ?_
  refine ⟨s.cut, (hΦ.go _ _ cx.phi).1.2.1 4 (by show 4 < 5; decide), s.seq, fun _ => (hΦ.go _ _ cx.phi).1.2.1 2 (by show 2 < 5; decide), Br.intro (fun _ => fun w G cx => ⟨rfl, cx.left⟩) (fun h2 => ?_)⟩
  rw [Bool.or_eq_false_iff] at h2
  have := of_decide_eq_false h2.1
  have := of_decide_eq_false h2.2
  omega
theorem Since_sl [Stable Φ] [hΦ : Has Φ (StR q s)] (hC : StC q s) (hL : StL s) (hlg : s.log.length ≤ 1000000) {n : Int} (h1 : s.cut ≤ n) (h2 : n ≤ s.seq) : GivesSl Φ Tryz.prog F.store_Store_Since #[.pointer (some ⟨q.sb, 0, none⟩), .int .i64 n] (s.log.drop (n - s.cut).toNat) (fun v => .tuple #[v, .int .i64 0]) := by
  have hlen := hL.len
  obtain ⟨d, hd⟩ : ∃ d : Nat, (n - s.cut).toNat = d := ⟨_, rfl⟩
  have hdl : d ≤ s.log.length := by omega
  have hdc : d ≤ q.gc := Nat.le_trans hdl hC.log.1
  rw [hd]
  refine gives_sl (Bstore_Store_Since_run q.sb 0 n) fun W R => fun w G cx => ?_
  refine ⟨s.cut, (hΦ.go _ _ cx.phi).1.2.1 4 (by show 4 < 5; decide), s.seq, fun _ => (hΦ.go _ _ cx.phi).1.2.1 2 (by show 2 < 5; decide), Br.intro (fun h => ?_) (fun _ => ?_)⟩
  · rw [Bool.or_eq_true] at h
    rcases h with h | h
    · have := of_decide_eq_true h; omega
    · have := of_decide_eq_true h; omega
  clear cx
  refine ⟨[], Φ, inferInstance, fun w G cx => Ctx.right (S := R) cx, q.gp, s.log.length, q.gc, fun w G cx => ⟨_, _, _, (hΦ.go _ _ cx.phi).1.2.1 3 (by show 3 < 5; decide), rfl⟩, s.cut, fun w G cx => ⟨_, (hΦ.go _ _ cx.phi).1.2.1 4 (by show 4 < 5; decide), rfl⟩, by unfold I64; omega, ⟨by omega, by omega, hC.log.1⟩, fun w G cx => ?_⟩
  rw [hd]
  have hsl : ∀ M w, Φ M w → Sl M w (subPtr q.gp 3 d q.gc) (s.log.drop d) := fun M w h => addr_sub (hΦ.go M w h).2.2.2 d hC.log.1
  have hln : s.log.length - d = (s.log.drop d).length := by rw [List.length_drop]
  rw [hln]
  refine CloneC_use hsl (by rw [List.length_drop]; omega) cx fun p' c' cs w cx => ?_
  obtain ⟨c1, hs, _, g1, g2⟩ := Ctx.freeze (α := ChgD) cx cx.phi.2
  have hst : Stable (fun M w => Φ M w ∧ Sl M w p' (s.log.drop d)) := instStableAnd Φ (fun M w => Sl M w p' (s.log.drop d))
  exact ⟨p', _, c', rfl, R, _, hst, (c1.add hs).weak fun M w h => ⟨h.1.1, h.2⟩, fun w G cx => ⟨p', c', rfl, g1, g2, cx.left⟩⟩
end
end Go.Proofs.YtebnciehcnedjaaGreatDoor
end

section
namespace Go.Proofs.YtebnciehcnedjaaGreatDoor
set_option maxRecDepth 100000
open Go.Vc
def Bstore_Store_Scan (sB sO : Nat) (prefixx : ByteArray) (W : World) (R : List Own) (Φ : PW) (J : Value → World → Prop) : Prop :=
  ∀ (k0 : Nat) (w1 : World) (R2 : List Own), Ctx W w1 (Own.blk k0 [.string prefixx] 9 :: R ++ R2) Φ → Calls Tryz.prog F.store_Store_runs #[.pointer (some (Addr.mk sB sO none))] w1 fun e3 w4 => ∃ p5 k6 k7, e3 = .returned (.slice p5 k6 k7) ∧ ∃ R8 Φ9, Stable Φ9 ∧ Ctx W w4 (R8 ++ R2) Φ9 ∧ ∀ w10 R11, Ctx W w10 (R8 ++ R11) Φ9 → Calls Tryz.prog F.store_merge #[.slice p5 k6 k7] w10 fun e12 w13 => ∃ p14 k15 k16, e12 = .returned (.slice p14 k15 k16) ∧ ∃ R17 Φ18, Stable Φ18 ∧ Ctx W w13 (R17 ++ R11) Φ18 ∧ ∀ w19 R20, Ctx W w19 (R17 ++ R20) Φ18 → Calls Tryz.prog F.store_there #[.slice p14 k15 k16] w19 fun e21 w22 => ∃ p23 k24 k25, e21 = .returned (.slice p23 k24 k25) ∧ ∃ R26 Φ27, Stable Φ27 ∧ Ctx W w22 (R26 ++ R20) Φ27 ∧ ∀ w28 R29, Ctx W w28 (R26 ++ R29) Φ27 → Calls Tryz.prog F.slices_DeleteFunc_store_run_api_Pair #[.slice p23 k24 k25, Value.func (Fn.func 68) #[] #[.pointer (some (Addr.mk k0 0 none))]]
  w28 fun e30 w31 => ∃ p32 k33 k34, e30 = .returned (.slice p32 k33 k34) ∧ ∃ R35 Φ36, Stable Φ36 ∧ Ctx W w31 (R35 ++ R29) Φ36 ∧ ∀ w37 R38, Ctx W w37 (R35 ++ R38) Φ36 → J (.slice p32 k33 k34) w37
theorem Bstore_Store_Scan_run (sB sO : Nat) (prefixx : ByteArray) {W w : World} {R : List Own} {Φ : PW} [Stable Φ] {J : Value → World → Prop} (c : Ctx W w R Φ) (h : Bstore_Store_Scan sB sO prefixx W R Φ J) : Calls Tryz.prog F.store_Store_Scan #[.pointer (some ⟨sB, sO, none⟩), .string prefixx] w fun e w' => ∃ v, e = .returned v ∧ J v w' :=
  vcFS_sound (H := { keep := some [0, 3, 4] }) (by rw [show vcFS Tryz.prog W { keep := some [0, 3, 4] } F.store_Store_Scan #[.pointer (some ⟨sB, sO, none⟩), .string prefixx] R Φ J = Bstore_Store_Scan sB sO prefixx W R Φ J by kernel_rfl]; exact h) c
def Bstore_Store_Scan_1 (p0 p1 : ByteArray) (kB kO : Nat) (W : World) (R : List Own) (Φ : PW) (J : Value → World → Prop) : Prop :=
  ∀ (b : Nat) (w0 : World) (R1 : List Own), Ctx W w0 (R ++ R1) Φ → ∃ s2, w0.cell? (Addr.mk kB kO none) = some (.string s2) ∧ ∀ w3 R4, Ctx W w3 (R ++ R4) Φ → Calls Tryz.prog F.strings_HasPrefix #[.string p0, .string s2] w3 fun e5 w6 => ∃ c7, e5 = .returned (.bool c7) ∧ ∃ R8 Φ9, Stable Φ9 ∧ Ctx W w6 (R8 ++ R4) Φ9 ∧ ∀ w10 R11, Ctx W w10 (R8 ++ R11) Φ9 → J (.bool !c7) w10
theorem Bstore_Store_Scan_1_run (p0 p1 : ByteArray) (kB kO : Nat) {W w : World} {R : List Own} {Φ : PW} [Stable Φ] {J : Value → World → Prop} (c : Ctx W w R Φ) (h : Bstore_Store_Scan_1 p0 p1 kB kO W R Φ J) : Calls Tryz.prog F.store_Store_Scan_1 #[.agg #[.string p0, .string p1], .pointer (some ⟨kB, kO, none⟩)] w fun e w' => ∃ v, e = .returned v ∧ J v w' :=
  vcFS_sound (H := { keep := some [1, 2, 3], track := [2] }) (by rw [show vcFS Tryz.prog W { keep := some [1, 2, 3], track := [2] } F.store_Store_Scan_1 #[.agg #[.string p0, .string p1], .pointer (some ⟨kB, kO, none⟩)] R Φ J = Bstore_Store_Scan_1 p0 p1 kB kO W R Φ J by kernel_rfl]; exact h) c
end Go.Proofs.YtebnciehcnedjaaGreatDoor
end

section
namespace Go.Proofs.YtebnciehcnedjaaGreatDoor
open Go.Vc
def preP (pre key : ByteArray) : Bool := decide ((pre.size : Int) ≤ (key.size : Int)) && decide (key.extract 0 pre.size = pre)
def scanS (s : StD) (pre : ByteArray) : Run := (allS s).filter fun x => preP pre x.key
theorem pre_g (x pre : ByteArray) : Gives Tryz.prog F.strings_HasPrefix #[.string x, .string pre] (.bool (preP pre x)) := by
  have h : Gives Tryz.prog F.internal_stringslite_HasPrefix #[.string x, .string pre] (.bool (preP pre x)) :=
    gives_of (Binternal_stringslite_HasPrefix_run x pre) fun W R Φ _ => fun w G cx => ⟨fun h => ⟨by omega, of_decide_eq_true h⟩, fun w G cx => ⟨by unfold preP; rw [Int.toNat_natCast], cx.left⟩⟩
  exact gives_of (Bstrings_HasPrefix_run x pre) fun W R Φ _ => fun w G cx => h.use cx fun w cx => ⟨_, rfl, _, _, inferInstance, cx, fun w G cx => ⟨rfl, cx.left⟩⟩
theorem sl_str {M : List Nat} {w : World} {k : Nat} {x : ByteArray} (h : Sl M w (some ⟨k, 0, none⟩) [x]) : w.cell? ⟨k, 0, none⟩ = some (.string x) := by
  obtain ⟨b', o', cs, e, _, h3, h4⟩ := h 0 (by simp)
  cases e
  obtain ⟨rfl, _⟩ := h4
  have := h3 0 (by simp)
  simpa using this
theorem scan_fn {Φ : PW} [Stable Φ] {k : Nat} {pre : ByteArray} (hΦ : ∀ M w, Φ M w → Sl M w (some ⟨k, 0, none⟩) [pre]) : DelFn Φ F.store_Store_Scan_1 #[.pointer (some ⟨k, 0, none⟩)] (fun y => !preP pre y.key) :=
  ⟨by kernel_rfl, fun x => gives_in (Bstore_Store_Scan_1_run x.key x.val k 0) fun W R => fun b w G cx => ⟨pre, sl_str (hΦ _ _ cx.phi), fun w G cx => (pre_g x.key pre).use cx fun w cx => ⟨_, rfl, R, Φ, inferInstance, cx, fun w G cx => ⟨rfl, cx.left⟩⟩⟩⟩
theorem there_buf {W w : World} {S : List Own} {Φ : PW} [Stable Φ] {p : Option Addr} {cap : Nat} {l : Run} (hΦ : ∀ M w, Φ M w → Sl M w p l) (hl : l.length < 100000000) (cx : Ctx W w S Φ) {K : Ending → World → Prop}
    (hK : ∀ p' cap' es w', es.map PE.d = thereP l → Ctx W w' (bufE p' cap' es :: S) Φ → K (.returned (.slice p' es.length cap')) w') : Calls Tryz.prog F.store_there #[.slice p l.length cap] w K := by
  refine (Bstore_there_run p l.length cap (J := fun u w' => K (.returned u) w') cx ?_).mono fun e w' ⟨v, he, hj⟩ => by rw [he]; exact hj
  clear cx
  refine fun w G cx => Clone_use hΦ hl cx fun p' cap' w cx => ⟨p', _, cap', rfl, bufE p' cap' (idxL 0 l) :: S, Φ, inferInstance, cx, fun w G cx => ?_⟩
  rw [← idxL_len 0 l]
  refine Delete_use there_fn (idxL 0 l) (by rw [idxL_len]; omega) (p := p') (cap := cap') (S := S ++ G) (Φ := Φ) cx fun w cx => ⟨p', _, cap', rfl, bufE p' cap' ((idxL 0 l).filter fun x => !goneE x) :: S, Φ, inferInstance, cx, fun w G cx => ?_⟩
  exact hK p' cap' _ w (by rw [filter_there, idxL_d]) cx.left
section
variable {Φ : PW} {q : TO} {s : StD}
set_option maxHeartbeats 1000000 in
theorem Scan_sl [Stable Φ] [hΦ : Has Φ (StR q s)] (hC : StC q s) (hn : s.levels.length ≤ 900000) (hl : s.levels.flatten.length ≤ 900000) (hv : (verP s).length ≤ 40000000) (hz : Szs (verP s)) {pre : ByteArray} (hpre : pre.size ≤ maxLen) :
    GivesSl Φ Tryz.prog F.store_Store_Scan #[.pointer (some ⟨q.sb, 0, none⟩), .string pre] (scanS s pre) id := by
  have hrv : (runsP s).flatten = verP s := runs_ver s
  have hrl : (runsP s).length ≤ 1000000 := by unfold runsP; rw [List.length_cons]; omega
  refine gives_sl (Bstore_Store_Scan_run q.sb 0 pre) fun W R => fun k w G cx => ?_
  obtain ⟨c1, hs⟩ := cx.freezeBlk (α := ByteArray) (l := [pre]) (Elems.one (α := ByteArray) (x := pre) (cs := [.string pre]) (show Gv.rep _ _ [Value.string pre] pre from ⟨rfl, hpre⟩))
  have cx1 : Ctx W w (R ++ G) (fun M w => Φ M w ∧ Sl M w (some ⟨k, 0, none⟩) [pre]) := c1.add hs
  have st1 : Stable (fun M w => Φ M w ∧ Sl M w (some ⟨k, 0, none⟩) [pre]) := instStableAnd Φ (fun M w => Sl M w (some ⟨k, 0, none⟩) [pre])
  clear cx c1 hs
  refine (runs_sl (Φ := fun M w => Φ M w ∧ Sl M w (some ⟨k, 0, none⟩) [pre]) (hΦ := ⟨fun M w h => hΦ.go M w h.1⟩) hC (by omega) hl).use cx1 fun p1 d1 w g1 g2 cx => ?_
  have st2 : Stable (fun M w => (Φ M w ∧ Sl M w (some ⟨k, 0, none⟩) [pre]) ∧ Sl M w p1 (runsP s)) := instStableAnd (fun M w => Φ M w ∧ Sl M w (some ⟨k, 0, none⟩) [pre]) (fun M w => Sl M w p1 (runsP s))
  refine ⟨p1, _, d1, rfl, R, _, st2, cx, fun w G cx => ?_⟩
  refine (merge_sl (Φ := fun M w => (Φ M w ∧ Sl M w (some ⟨k, 0, none⟩) [pre]) ∧ Sl M w p1 (runsP s)) (hΦ := ⟨fun M w h => h.2⟩) hrl (by rw [hrv]; omega)).use cx fun p2 d2 w g3 g4 cx => ?_
  rw [hrv] at g3 cx ⊢
  have cx2 := cx.weak (Ψ := fun M w => (Φ M w ∧ Sl M w (some ⟨k, 0, none⟩) [pre]) ∧ Sl M w p2 (normK (verP s))) fun M w h => ⟨h.1.1, h.2⟩
  have st3 : Stable (fun M w => (Φ M w ∧ Sl M w (some ⟨k, 0, none⟩) [pre]) ∧ Sl M w p2 (normK (verP s))) := instStableAnd (fun M w => Φ M w ∧ Sl M w (some ⟨k, 0, none⟩) [pre]) (fun M w => Sl M w p2 (normK (verP s)))
  refine ⟨p2, _, d2, rfl, R, _, st3, cx2, fun w G cx => ?_⟩
  clear cx2
  have hnl := normK_len (verP s)
  refine there_buf (Φ := fun M w => (Φ M w ∧ Sl M w (some ⟨k, 0, none⟩) [pre]) ∧ Sl M w p2 (normK (verP s))) (fun M w h => h.2) (by omega) cx fun p3 d3 es w hes cx => ⟨p3, _, d3, rfl, bufE p3 d3 es :: R, _, st3, cx, fun w G cx => ?_⟩
  have hel : es.length ≤ 100000000 := by
    have h1 := congrArg List.length hes
    rw [List.length_map] at h1
    have h2 : (thereP (normK (verP s))).length ≤ (normK (verP s)).length := List.length_filter_le _ _
    omega
  refine Delete_use (scan_fn fun M w h => h.1.2) es hel (S := R ++ G) cx fun w cx => ⟨p3, _, d3, rfl, bufE p3 d3 (es.filter fun x => !goneF (fun y => !preP pre y.key) x) :: R, _, st3, cx, fun w G cx => ?_⟩
  have em : (es.filter fun x => !goneF (fun y => !preP pre y.key) x).map PE.d = scanS s pre := by
    unfold scanS allS
    rw [← hes, List.filter_map]
    congr 1
    refine List.filter_congr fun x _ => ?_
    show (!(!preP pre x.d.key)) = preP pre x.d.key
    rw [Bool.not_not]
  obtain ⟨c1, c2, c3⟩ := freezeE (S := R ++ G) cx (by
    rw [em]
    intro x hx
    have h1 : x ∈ allS s := (List.mem_filter.1 hx).1
    exact hz x (normK_mem x (List.mem_filter.1 h1).1))
  rw [em] at c1 c2
  refine ⟨p3, d3, ?_, c2, c3, (c1.weak (Ψ := fun M w => Φ M w ∧ Sl M w p3 (scanS s pre)) fun M w h => ⟨h.1.1.1, h.2⟩).left⟩
  have el : (es.filter fun x => !goneF (fun y => !preP pre y.key) x).length = (scanS s pre).length := by rw [← em, List.length_map]
  rw [el]
  rfl
theorem Len_in [Stable Φ] [hΦ : Has Φ (StR q s)] (hC : StC q s) (hn : s.levels.length ≤ 900000) (hl : s.levels.flatten.length ≤ 900000) (hv : (verP s).length ≤ 40000000) (hz : Szs (verP s)) :
    GivesIn Φ Tryz.prog F.store_Store_Len #[.pointer (some ⟨q.sb, 0, none⟩)] (.int .i64 ((scanS s tE).length : Int)) := by
  refine gives_in (Bstore_Store_Len_run q.sb 0) fun W R => fun w G cx => ?_
  refine (Scan_sl (pre := tE) hC hn hl hv hz (by show 0 ≤ _; omega)).use cx fun p c w g1 g2 cx => ?_
  have st : Stable (fun M w => Φ M w ∧ Sl M w p (scanS s tE)) := instStableAnd Φ (fun M w => Sl M w p (scanS s tE))
  exact ⟨p, _, c, rfl, R, _, st, cx, fun w G cx => ⟨rfl, cx.left.weak fun M w h => h.1⟩⟩
end
end Go.Proofs.YtebnciehcnedjaaGreatDoor
end

