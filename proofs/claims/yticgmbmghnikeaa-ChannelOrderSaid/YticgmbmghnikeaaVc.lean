/-
  The walks of slices.Clone, clone and channel.Right.
-/
import Derived.Test.YticgmbmghnikeaaVb
import Derived.Test.YticgmbmghnikeaaVcQ
set_option linter.unusedVariables false
set_option linter.unusedSimpArgs false
namespace Go.Proofs.Yticgmbmghnikeaa
open Go.Vc

theorem val_one (M : List Nat) (w : World) (cs : List Value) (x : ValD) (h : Gv.rep M w cs x) : (cs.all fun u => oneC u) = true := by
  obtain ⟨_, _, rfl, ⟨rfl, _⟩, _, _, rfl, ⟨rfl, _⟩, rfl, _⟩ := h
  rfl

theorem delta_one (M : List Nat) (w : World) (cs : List Value) (x : DeltaD) (h : Gv.rep M w cs x) : (cs.all fun u => oneC u) = true := by
  obtain ⟨p, c, rfl, _⟩ := delta_cells h
  rfl

theorem vals_any {M M' : List Nat} {w w' : World} {cs : List Value} {l : List ValD} (h : Elems M w cs l) : Elems M' w' cs l := ⟨h.1, fun j hj => h.2 j hj⟩

theorem CloneV_in {Φ : PW} [Stable Φ] (p : Option Addr) (cap : Nat) (l : List ValD) (hΦ : ∀ M w, Φ M w → Sl M w p l) (hlen : l.length < 100000000) :
    GivesNew Φ Try.prog F.slices_Clone_api_Value_api_Value #[.slice p l.length cap] l 58 := by
  refine .there (fun M w h => (hΦ M w h).there) fun hth => ?_
  refine gives_new (Bslices_Clone_api_Value_api_Value_run p l.length cap) fun W R => ?_
  refine Br.intro (fun hn => fun w F c => ?_) (fun hn => ?_)
  · have hl : l = [] := by
      cases l with
      | nil => rfl
      | cons => obtain ⟨b, o, e⟩ := hth (by simp); rw [e] at hn; cases hn
    subst hl
    exact ⟨none, 0, [], rfl, (c.left.buf0 58 3).add Elems.nil⟩
  · intro k w F c
    obtain ⟨p', cap', w', cs, hrun, c'⟩ := Ctx.cloned (P := Try.prog) (ts := 54) (ty := 54) (kb := #[false, false]) (bytes := 32) (c2 := cap) c (by kernel_rfl) val_one hΦ hlen (by omega)
    exact ⟨_, _, _, _, hrun, _, _, inferInstance, c', fun w F c => ⟨p', cap', cs, rfl, c.left⟩⟩

theorem CloneD_in {Φ : PW} [Stable Φ] (p : Option Addr) (cap : Nat) (l : List DeltaD) (hΦ : ∀ M w, Φ M w → Sl M w p l) (hlen : l.length < 100000000) :
    GivesNew Φ Try.prog F.slices_Clone_api_Delta_api_Delta #[.slice p l.length cap] l 56 := by
  refine .there (fun M w h => (hΦ M w h).there) fun hth => ?_
  refine gives_new (Bslices_Clone_api_Delta_api_Delta_run p l.length cap) fun W R => ?_
  refine Br.intro (fun hn => fun w F c => ?_) (fun hn => ?_)
  · have hl : l = [] := by
      cases l with
      | nil => rfl
      | cons => obtain ⟨b, o, e⟩ := hth (by simp); rw [e] at hn; cases hn
    subst hl
    exact ⟨none, 0, [], rfl, (c.left.buf0 56 3).add Elems.nil⟩
  · intro k w F c
    obtain ⟨p', cap', w', cs, hrun, c'⟩ := Ctx.cloned (P := Try.prog) (ts := 29) (ty := 29) (kb := #[false, false]) (bytes := 40) (c2 := cap) c (by kernel_rfl) delta_one hΦ hlen (by omega)
    exact ⟨_, _, _, _, hrun, _, _, inferInstance, c', fun w F c => ⟨p', cap', cs, rfl, c.left⟩⟩

/-! ### messages -/
structure MsgD where
  kind : Int
  node : Int
  inp : Int
  bucket : Int
  n : Int
  deltas : List DeltaD
instance : Gv MsgD := Gv.via (β := Int × Int × Int × Int × Int × List DeltaD) (fun x => (x.kind, x.node, x.inp, x.bucket, x.n, x.deltas)) (fun y => ⟨y.1, y.2.1, y.2.2.1, y.2.2.2.1, y.2.2.2.2.1, y.2.2.2.2.2⟩) (fun _ => rfl)

abbrev MsgD.cells (x : MsgD) (p : Option Addr) (c : Nat) : List Value := [.int .i64 x.kind, .int .i64 x.node, .int .i64 x.inp, .int .i64 x.bucket, .int .i64 x.n, .slice p x.deltas.length c]
abbrev MsgD.v (x : MsgD) (p : Option Addr) (c : Nat) : Value := .agg #[.int .i64 x.kind, .int .i64 x.node, .int .i64 x.inp, .int .i64 x.bucket, .int .i64 x.n, .slice p x.deltas.length c]

structure MsgD.Ok (x : MsgD) : Prop where
  kind : I64 x.kind
  node : I64 x.node
  inp : I64 x.inp
  bucket : I64 x.bucket
  n : I64 x.n

theorem msg_cells {M : List Nat} {w : World} {cs : List Value} {x : MsgD} (h : Gv.rep M w cs x) : ∃ p c, cs = x.cells p c ∧ x.deltas.length ≤ c ∧ c ≤ maxLen ∧ x.Ok ∧ Sl M w p x.deltas := by
  obtain ⟨_, _, rfl, ⟨rfl, h1⟩, _, _, rfl, ⟨rfl, h2⟩, _, _, rfl, ⟨rfl, h3⟩, _, _, rfl, ⟨rfl, h4⟩, _, _, rfl, ⟨rfl, h5⟩, p, c, rfl, h6, h7, h8⟩ := h
  exact ⟨p, c, rfl, h6, h7, ⟨h1, h2, h3, h4, h5⟩, h8⟩

theorem rep_msg {M : List Nat} {w : World} {x : MsgD} {p : Option Addr} {c : Nat} (h : x.Ok) (h6 : x.deltas.length ≤ c) (h7 : c ≤ maxLen) (h8 : Sl M w p x.deltas) : Gv.rep M w (x.cells p c) x :=
  ⟨[_], _, rfl, ⟨rfl, h.kind⟩, [_], _, rfl, ⟨rfl, h.node⟩, [_], _, rfl, ⟨rfl, h.inp⟩, [_], _, rfl, ⟨rfl, h.bucket⟩, [_], _, rfl, ⟨rfl, h.n⟩, p, c, rfl, h6, h7, h8⟩

theorem msg_sl {M : List Nat} {w : World} {x : MsgD} {p : Option Addr} {c : Nat} (h : Gv.rep M w (x.cells p c) x) : Sl M w p x.deltas := by
  obtain ⟨p', c', e, _, _, _, h1⟩ := msg_cells h
  simp only [MsgD.cells, List.cons.injEq, Value.slice.injEq] at e
  rw [e.2.2.2.2.2.1.1]
  exact h1

/-! ### channel.Right -/
abbrev numsM (m : MsgD) : List Int := [m.node, m.inp, m.bucket, max m.n 0]
def numBad (m : MsgD) (n : Int) : Bool := decide (n < 0) || decide (1099511627776 < n) || decide (m.n < -1)
def headM (m : MsgD) : Bool := !(numsM m).any (numBad m) && !(decide (m.kind < 0) || decide (3 ≤ m.kind) || decide (8 < (m.deltas.length : Int)) || decide (m.kind ≠ 0) && decide (0 < (m.deltas.length : Int)))
def rightM (m : MsgD) : Bool := headM m && consolidated m.deltas && !m.deltas.any fun d => !rightRow d.row

theorem nums_at (m : MsgD) {i : Nat} (hi : i < 4) : ∃ n, (numsM m)[i]? = some n ∧ aggAt i [.int .i64 m.node, .int .i64 m.inp, .int .i64 m.bucket, .int .i64 (max m.n 0)] = some (.int .i64 n) := by
  match i, hi with
  | 0, _ => exact ⟨_, rfl, aggAt_eq _ _⟩
  | 1, _ => exact ⟨_, rfl, aggAt_eq _ _⟩
  | 2, _ => exact ⟨_, rfl, aggAt_eq _ _⟩
  | 3, _ => exact ⟨_, rfl, aggAt_eq _ _⟩

set_option maxHeartbeats 1000000 in
theorem Right_in {Φ : PW} [Stable Φ] (p : Option Addr) (cap : Nat) (m : MsgD) (hΦ : ∀ M w, Φ M w → Sl M w p m.deltas) (hlen : m.deltas.length ≤ 9223372036854775807) :
    GivesIn Φ Try.prog F.channel_Right #[m.v p cap] (.bool (rightM m)) := by
  refine .pinned hΦ fun b o cs hp => ?_
  refine gives_in (Bchannel_Right_run m.kind m.node m.inp m.bucket m.n p m.deltas.length cap) fun W R => ?_
  refine fun _ => exI_mk (fun n R' Φ' k => ∃ i : Nat, n = i ∧ i ≤ 4 ∧ R' = R ∧ Φ' = (fun M w => Φ M w ∧ Pin b o cs m.deltas M w) ∧ k = 4 - i ∧ ∀ j, j < i → ∀ n, (numsM m)[j]? = some n → numBad m n = false) ⟨⟨R, _, _, inferInstance, fun w F c => c, 0, rfl, Nat.zero_le _, rfl, rfl, rfl, fun j hj => by omega⟩, ?_⟩
  rintro n R1 Φ1 k _ ⟨i, rfl, hi, rfl, rfl, rfl, hok⟩
  refine Br.intro (fun hlt => ?_) (fun hge => fun w G cx => ?_)
  · have hlt : i < 4 := by have := of_decide_eq_true hlt; omega
    obtain ⟨n, hn, ha⟩ := nums_at m hlt
    refine ⟨n, ⟨by omega, by omega, by rw [Int.toNat_natCast, Nat.zero_add]; exact ha⟩, fun w F cx => Br.intro (fun hb => fun w F cx => ⟨?_, cx.left⟩) (fun hb => ⟨by unfold I64; omega, R1, _, 4 - (i + 1), inferInstance, fun w F c => c, ⟨i + 1, rfl, hlt, rfl, rfl, rfl, fun j hj n' hn' => ?_⟩, by omega⟩)⟩
    · have hb : numBad m n = true := hb
      have : (numsM m).any (numBad m) = true := List.any_eq_true.2 ⟨n, List.mem_of_getElem? hn, hb⟩
      unfold rightM headM
      rw [this]; rfl
    · rcases Nat.lt_or_ge j i with h | h
      · exact hok j h n' hn'
      · rw [show j = i by omega, hn] at hn'
        cases hn'
        exact hb
  · have hge : i = 4 := by have := of_decide_eq_false hge; omega
    subst hge
    have hall : (numsM m).any (numBad m) = false := by
      rw [List.any_eq_false]
      intro x hx
      obtain ⟨j, hj⟩ := List.getElem?_of_mem hx
      rw [hok j (List.getElem?_eq_some_iff.1 hj).1 x hj]
      simp
    refine Br.intro (fun h2 => fun w F cx => ⟨?_, cx.left⟩) (fun h2 => fun w G cx => ?_)
    · unfold rightM headM
      rw [h2]
      simp
    · have hhead : headM m = true := by unfold headM; rw [hall, h2]; rfl
      refine (Consolidated_pin (Φ := fun M w => Φ M w ∧ Pin b o cs m.deltas M w) p cap m.deltas b o cs hp (fun _ _ h => h.2) hlen).use cx fun w cx => ⟨_, rfl, R1, _, inferInstance, cx, Br.intro (fun h3 => fun w G cx => ?_) (fun h3 => fun w G cx => ⟨?_, cx.left⟩)⟩
      · refine (ContainsD_in (Φ := fun M w => Φ M w ∧ Pin b o cs m.deltas M w) p cap m.deltas b o cs 26 (fun d => !rightRow d.row) hp (fun _ _ h => h.2) hlen (by kernel_rfl) fun j hj r c e h1 h2 => ?_).use cx fun w cx => ⟨_, rfl, R1, _, inferInstance, cx, fun w G cx => ⟨?_, cx.left⟩⟩
        · exact Right1_in _ r c (fun M w h => pin_row h.2 hj e) (len_max h1 h2)
        · unfold rightM
          rw [hhead, h3]
          rfl
      · unfold rightM
        rw [h3, Bool.and_false]
        rfl

/-! ### clone -/
/-- a copy of deltas: the cells, and the rows that are owned with it -/
structure Fresh (cs : List Value) (rows : List Own) (l : List DeltaD) : Prop where
  len : cs.length = l.length * 3
  go : ∀ j, (hj : j < l.length) → ∃ q c vc, (cs.drop (j * 3)).take 3 = l[j].cells q c ∧ l[j].row.length ≤ c ∧ c ≤ maxLen ∧ I64 l[j].time ∧ I64 l[j].n ∧ Own.buf q l[j].row.length c vc 58 3 ∈ rows ∧ ∀ M w, Elems M w vc l[j].row

theorem Fresh.sl {W w : World} {S : List Own} {Φ : PW} [Stable Φ] {p : Option Addr} {n cap : Nat} {cs : List Value} {rows : List Own} {l : List DeltaD} (hf : Fresh cs rows l) (c : Ctx W w (.buf p n cap cs 56 3 :: rows ++ S) Φ) :
    Ctx W w S Φ ∧ Sl (dom S) w p l ∧ n = l.length ∧ n ≤ cap ∧ cap ≤ maxLen := by
  have c1 : Ctx W w (rows ++ (.buf p n cap cs 56 3 :: S)) Φ := c.perm (by rw [List.cons_append]; exact List.perm_middle.symm)
  have c2 : Ctx W w (.buf p n cap cs 56 3 :: S) Φ := c1.right
  refine Ctx.freeze (α := DeltaD) c2 ⟨hf.len, fun j hj => ?_⟩
  obtain ⟨q, c, vc, h1, h2, h3, h4, h5, h6, h7⟩ := hf.go j hj
  rw [show (Gv.ty DeltaD).size = 3 from rfl, h1]
  exact rep_delta h2 h3 h4 h5 (c1.letGo (α := ValD) h6 (h7 _ _))

/-- the function hands back a copy of deltas, inside mk -/
structure GivesCopy (Φ : PW) (P : Program) (f : FuncId) (args : Array Value) (l : List DeltaD) (mk : Value → Value) : Prop where
  go : ∀ (W w : World) (S : List Own), Ctx W w S Φ → Calls P f args w fun e w' => ∃ p cap cs rows, e = .returned (mk (.slice p l.length cap)) ∧ Fresh cs rows l ∧ Ctx W w' (.buf p l.length cap cs 56 3 :: rows ++ S) Φ

theorem gives_copy {Φ : PW} [Stable Φ] {P : Program} {f : FuncId} {args : Array Value} {l : List DeltaD} {mk : Value → Value} {B : World → List Own → PW → (Value → World → Prop) → Prop}
    (run : ∀ {W w : World} {R : List Own} {Φ : PW} [Stable Φ] {J : Value → World → Prop}, Ctx W w R Φ → B W R Φ J → Calls P f args w fun e w' => ∃ v, e = .returned v ∧ J v w')
    (h : ∀ (W : World) (R : List Own), B W R Φ fun u w' => ∃ p cap cs rows, u = mk (.slice p l.length cap) ∧ Fresh cs rows l ∧ Ctx W w' (.buf p l.length cap cs 56 3 :: rows ++ R) Φ) : GivesCopy Φ P f args l mk :=
  ⟨fun W w S c => calls_of (run c (h W S)) fun u w' ⟨p, cap, cs, rows, h1, h2⟩ => ⟨p, cap, cs, rows, by rw [h1], h2⟩⟩

theorem GivesCopy.use {Φ : PW} {P : Program} {f : FuncId} {args : Array Value} {l : List DeltaD} {mk : Value → Value} (h : GivesCopy Φ P f args l mk) {W w : World} {S : List Own} (c : Ctx W w S Φ) {K : Ending → World → Prop}
    (hk : ∀ p cap cs rows w', Fresh cs rows l → Ctx W w' (.buf p l.length cap cs 56 3 :: rows ++ S) Φ → K (.returned (mk (.slice p l.length cap))) w') : Calls P f args w K :=
  (h.go W w S c).mono fun e w' ⟨p, cap, cs, rows, he, hf, c'⟩ => by subst he; exact hk p cap cs rows w' hf c'

theorem GivesCopy.gsl {Φ : PW} [Stable Φ] {P : Program} {f : FuncId} {args : Array Value} {l : List DeltaD} {mk : Value → Value} (h : GivesCopy Φ P f args l mk) : GivesSl Φ P f args l mk :=
  ⟨fun W w S c => (h.go W w S c).mono fun e w' ⟨p, cap, cs, rows, he, hf, c'⟩ => by
    obtain ⟨c2, h1, _, h2, h3⟩ := hf.sl c'
    exact ⟨p, cap, he, h2, h3, c2.add h1⟩⟩

theorem GivesCopy.there {Φ : PW} {P : Program} {f : FuncId} {args : Array Value} {l : List DeltaD} {mk : Value → Value} {p : Option Addr} {n : Nat} (hΦ : ∀ M w, Φ M w → There p n) (h : There p n → GivesCopy Φ P f args l mk) : GivesCopy Φ P f args l mk :=
  ⟨fun W w S c => (h (hΦ _ _ c.phi)).go W w S c⟩

theorem take3 {cs : List Value} {o : Nat} {a b c : Value} : (cs.drop o).take 3 = [a, b, c] ↔ (cs[o]? = some a ∧ cs[o + 1]? = some b ∧ cs[o + 2]? = some c) := by
  constructor
  · intro h
    have key : ∀ i, i < 3 → cs[o + i]? = [a, b, c][i]? := by
      intro i hi
      rw [← h, List.getElem?_take_of_lt hi, List.getElem?_drop]
    exact ⟨key 0 (by omega), key 1 (by omega), key 2 (by omega)⟩
  · rintro ⟨h1, h2, h3⟩
    have hlt : o + 2 < cs.length := (List.getElem?_eq_some_iff.1 h3).1
    apply List.ext_getElem?
    intro i
    match i with
    | 0 => rw [List.getElem?_take_of_lt (by omega), List.getElem?_drop]; exact h1
    | 1 => rw [List.getElem?_take_of_lt (by omega), List.getElem?_drop]; exact h2
    | 2 => rw [List.getElem?_take_of_lt (by omega), List.getElem?_drop]; exact h3
    | i + 3 => rw [List.getElem?_eq_none (by simp; omega), List.getElem?_eq_none (by simp)]

/-- so far, i rows are copied -/
structure Half (cs news : List Value) (rows : List Own) (l : List DeltaD) (i : Nat) : Prop where
  len : cs.length = l.length * 3
  done : ∀ j, (hj : j < l.length) → j < i → ∃ q c vc, (cs.drop (j * 3)).take 3 = l[j].cells q c ∧ l[j].row.length ≤ c ∧ c ≤ maxLen ∧ I64 l[j].time ∧ I64 l[j].n ∧ Own.buf q l[j].row.length c vc 58 3 ∈ rows ∧ ∀ M w, Elems M w vc l[j].row
  todo : ∀ j, j < l.length → i ≤ j → (cs.drop (j * 3)).take 3 = (news.drop (j * 3)).take 3

theorem Half.step {cs news : List Value} {rows : List Own} {l : List DeltaD} {i : Nat} (h : Half cs news rows l i) (hi : i < l.length) {q0 q : Option Addr} {c0 c : Nat} {vc : List Value} (hn : (news.drop (i * 3)).take 3 = l[i].cells q0 c0)
    (h1 : l[i].row.length ≤ c) (h2 : c ≤ maxLen) (h3 : I64 l[i].time) (h4 : I64 l[i].n) (h5 : ∀ M w, Elems M w vc l[i].row) :
    Half (setL cs (i * 3 + 1) [.slice q l[i].row.length c]) news (.buf q l[i].row.length c vc 58 3 :: rows) l (i + 1) := by
  have hlen := h.len
  have hset : setL cs (i * 3 + 1) [.slice q l[i].row.length c] = cs.set (i * 3 + 1) (.slice q l[i].row.length c) := rfl
  have hoth : ∀ j, j < l.length → j ≠ i → ((cs.set (i * 3 + 1) (.slice q l[i].row.length c)).drop (j * 3)).take 3 = (cs.drop (j * 3)).take 3 := by
    intro j hj hne
    apply List.ext_getElem?
    intro k
    rcases Nat.lt_or_ge k 3 with hk | hk
    · rw [List.getElem?_take_of_lt hk, List.getElem?_drop, List.getElem?_take_of_lt hk, List.getElem?_drop, List.getElem?_set_ne (by omega)]
    · rw [List.getElem?_eq_none (by simp; omega), List.getElem?_eq_none (by simp; omega)]
  rw [hset]
  refine ⟨by simp [hlen], fun j hj hji => ?_, fun j hj hji => ?_⟩
  · rcases Nat.lt_or_ge j i with hlt | hge
    · obtain ⟨q', c', vc', g1, g2, g3, g4, g5, g6, g7⟩ := h.done j hj hlt
      exact ⟨q', c', vc', by rw [hoth j hj (by omega), g1], g2, g3, g4, g5, List.mem_cons_of_mem _ g6, g7⟩
    · have : j = i := by omega
      subst this
      refine ⟨q, c, vc, ?_, h1, h2, h3, h4, List.mem_cons_self, h5⟩
      obtain ⟨e1, e2, e3⟩ := take3.1 ((h.todo j hj (Nat.le_refl _)).trans hn)
      have hlt : j * 3 + 2 < cs.length := (List.getElem?_eq_some_iff.1 e3).1
      exact take3.2 ⟨by rw [List.getElem?_set_ne (by omega)]; exact e1, by rw [List.getElem?_set_self (by omega)], by rw [List.getElem?_set_ne (by omega)]; exact e3⟩
  · rw [hoth j hj (by omega)]
    exact h.todo j hj (by omega)

theorem elems_delta {M : List Nat} {w : World} {cs : List Value} {l : List DeltaD} (h : Elems M w cs l) {j : Nat} (hj : j < l.length) : ∃ q c, (cs.drop (j * 3)).take 3 = l[j].cells q c ∧ l[j].row.length ≤ c ∧ c ≤ maxLen ∧ I64 l[j].time ∧ I64 l[j].n ∧ Sl M w q l[j].row := by
  have := h.2 j hj
  rw [show (Gv.ty DeltaD).size = 3 from rfl] at this
  exact delta_cells this

theorem elems_row {M : List Nat} {w : World} {cs : List Value} {l : List DeltaD} (h : Elems M w cs l) {j : Nat} (hj : j < l.length) {q : Option Addr} {c : Nat} (e : (cs.drop (j * 3)).take 3 = l[j].cells q c) : Sl M w q l[j].row := by
  have := h.2 j hj
  rw [show (Gv.ty DeltaD).size = 3 from rfl, e] at this
  exact delta_row this

theorem canW_one {w : World} {b o : Nat} {v : Value} (h : w.cell? ⟨b, o, none⟩ = some v) (h2 : w.frozen? ⟨b, o, none⟩ = false) : CanWrite w b o 1 := fun j hj => by
  rw [show j = 0 by omega, Nat.add_zero]
  exact ⟨by rw [h]; rfl, h2⟩

set_option maxHeartbeats 1000000 in
theorem clone_copy {Φ : PW} [Stable Φ] (p : Option Addr) (cap : Nat) (m : MsgD) (hΦ : ∀ M w, Φ M w → Sl M w p m.deltas) (hlen : m.deltas.length < 100000000) (hrows : ∀ x ∈ m.deltas, x.row.length < 100000000) :
    GivesCopy Φ Try.prog F.channel_clone #[m.v p cap] m.deltas (fun s => .agg #[.int .i64 m.kind, .int .i64 m.node, .int .i64 m.inp, .int .i64 m.bucket, .int .i64 m.n, s]) := by
  refine gives_copy (Bchannel_clone_run m.kind m.node m.inp m.bucket m.n p m.deltas.length cap) fun W R => ?_
  intro k0 _ w G cx
  refine ⟨p, m.deltas.length, cap, cx.get 0 rfl rfl, fun w G cx => ?_⟩
  refine (CloneD_in p cap m.deltas hΦ hlen).use cx fun p1 cap1 news w cx => ⟨p1, m.deltas.length, cap1, rfl, ?_⟩
  have hnews : ∀ j, (hj : j < m.deltas.length) → ∃ q c, (news.drop (j * 3)).take 3 = m.deltas[j].cells q c ∧ m.deltas[j].row.length ≤ c ∧ c ≤ maxLen ∧ I64 m.deltas[j].time ∧ I64 m.deltas[j].n := fun j hj => by
    obtain ⟨q, c, h1, h2, h3, h4, h5, _⟩ := elems_delta cx.phi.2 hj
    exact ⟨q, c, h1, h2, h3, h4, h5⟩
  have hnl : news.length = m.deltas.length * 3 := cx.phi.2.1
  refine ⟨.blk k0 (m.cells p cap) 31 :: .buf p1 m.deltas.length cap1 news 56 3 :: R, fun M w => Φ M w ∧ Elems M w news m.deltas, inferInstance, cx.swap, fun w G cx => ⟨cx.can 0 rfl (by simp), fun w' hw' => ?_⟩⟩
  refine ⟨.blk k0 (m.cells p1 cap1) 31 :: .buf p1 m.deltas.length cap1 news 56 3 :: R, fun M w => Φ M w ∧ Elems M w news m.deltas, inferInstance, cx.put 0 hw' rfl, fun w G cx => ⟨p1, m.deltas.length, cap1, cx.get 0 rfl rfl, ?_⟩⟩
  refine exI_mk (fun n R' Φ' k => ∃ (i : Nat) (cs : List Value) (rows : List Own), n = i ∧ i ≤ m.deltas.length ∧ R' = .blk k0 (m.cells p1 cap1) 31 :: .buf p1 m.deltas.length cap1 cs 56 3 :: rows ++ R ∧ Φ' = (fun M w => Φ M w ∧ Elems M w news m.deltas) ∧ k = m.deltas.length - i ∧ Half cs news rows m.deltas i)
    ⟨⟨_, _, _, inferInstance, fun w F c => c, 0, news, [], rfl, Nat.zero_le _, rfl, rfl, rfl, hnl, fun j _ h => by omega, fun j _ _ => rfl⟩, ?_⟩
  rintro n R1 Φ1 k _ ⟨i, cs, rows, rfl, hi, rfl, rfl, rfl, hh⟩
  refine Br.intro (fun hlt => ?_) (fun hge => fun w G cx => ⟨m.kind, m.node, m.inp, m.bucket, m.n, p1, m.deltas.length, cap1, cx.row0 0 rfl, fun w G cx => ⟨p1, cap1, cs, rows, rfl, ?_, ?_⟩⟩)
  · have hlt : i < m.deltas.length := by simpa using hlt
    obtain ⟨q0, c0, hq0, hq1, hq2, hq3, hq4⟩ := hnews i hlt
    have hcs := take3.1 ((hh.todo i hlt (Nat.le_refl _)).trans hq0)
    have h0 : 0 < cs.length := by rw [hh.len]; omega
    refine ⟨[.blk k0 (m.cells p1 cap1) 31], fun _ _ => True, inferInstance, fun w G cx => (cx.weak fun _ _ _ => trivial).sub (List.Sublist.cons_cons _ (List.sublist_append_right _ _)),
      p1, m.deltas.length, cap1, fun w G cx => ⟨p1, m.deltas.length, cap1, cx.get 0 rfl rfl, rfl⟩, p1, m.deltas.length, cap1, fun w G cx => ⟨p1, m.deltas.length, cap1, cx.get 0 rfl rfl, rfl⟩, by omega, ?_⟩
    by_cases hp1 : ∃ b1, p1 = some ⟨b1, 0, none⟩
    case neg =>
      exfalso
      obtain ⟨b1, hb1, _⟩ := cx.bufCell 1 rfl (by rw [hnl]; omega)
      exact hp1 ⟨b1, hb1⟩
    obtain ⟨b1, hb1⟩ := hp1
    refine ptrK_intro b1 0 hb1 fun w G cx => ⟨q0, m.deltas[i].row.length, c0, ?_, fun w G cx => ?_⟩
    · obtain ⟨b', hb', _, hc⟩ := cx.bufCell 1 rfl h0
      rw [hb1] at hb'
      cases hb'
      rw [Int.toNat_natCast, Nat.zero_add]
      exact (hc _ _ hcs.2.1).1
    refine (CloneV_in (Φ := fun M w => Φ M w ∧ Elems M w news m.deltas) q0 c0 m.deltas[i].row (fun M w h => elems_row h.2 hlt hq0) (hrows _ (List.getElem_mem _))).use cx fun p2 cap2 vc w cx => ⟨p2, m.deltas[i].row.length, cap2, rfl, ?_⟩
    have hvc : ∀ M w, Elems M w vc m.deltas[i].row := fun M w => vals_any cx.phi.2
    obtain ⟨_, hcap1, hcap2⟩ := cx.bufLen 0 rfl
    refine ⟨.blk k0 (m.cells p1 cap1) 31 :: .buf p1 m.deltas.length cap1 cs 56 3 :: (.buf p2 m.deltas[i].row.length cap2 vc 58 3 :: rows) ++ R, fun M w => Φ M w ∧ Elems M w news m.deltas, inferInstance, ?_, ?_, by omega, ptrK_intro b1 0 hb1 fun w G cx => ⟨?_, fun w' hw' => ?_⟩⟩
    · exact (cx.fst).perm (List.perm_middle (l₁ := [Own.blk k0 (m.cells p1 cap1) 31, Own.buf p1 m.deltas.length cap1 cs 56 3])).symm
    · exact fun w G cx => (cx.weak fun _ _ _ => trivial).sub (List.Sublist.cons_cons _ (List.sublist_append_right _ _))
    · rw [Int.toNat_natCast, Nat.zero_add]
      refine cx.bufCan 1 rfl hb1 ?_
      have := (List.getElem?_eq_some_iff.1 hcs.2.1).1
      omega
    · rw [Int.toNat_natCast, Nat.zero_add] at hw'
      have hlt1 := (List.getElem?_eq_some_iff.1 hcs.2.1).1
      have cx' := cx.bufPuts 1 rfl hb1 h0 (o := i * 3 + 1) (vs := [.slice p2 m.deltas[i].row.length cap2]) (by simp only [List.length_singleton]; omega) hw'
      exact ⟨.blk k0 (m.cells p1 cap1) 31 :: .buf p1 m.deltas.length cap1 (setL cs (i * 3 + 1) [.slice p2 m.deltas[i].row.length cap2]) 56 3 :: (.buf p2 m.deltas[i].row.length cap2 vc 58 3 :: rows) ++ R, fun M w => Φ M w ∧ Elems M w news m.deltas, inferInstance, cx',
        fun w G cx => (cx.weak fun _ _ _ => trivial).sub (List.Sublist.cons_cons _ (List.sublist_append_right _ _)), by unfold I64; omega, _, _, m.deltas.length - (i + 1), inferInstance, fun w G cx => cx, ⟨i + 1, _, _, rfl, hlt, rfl, rfl, rfl, hh.step hlt hq0 hcap1 hcap2 hq3 hq4 hvc⟩, by omega⟩
  · have hge : i = m.deltas.length := Nat.le_antisymm hi (by simpa using hge)
    exact ⟨hh.len, fun j hj => hh.done j hj (by omega)⟩
  · exact cx.left.drop1.fst

end Go.Proofs.Yticgmbmghnikeaa
