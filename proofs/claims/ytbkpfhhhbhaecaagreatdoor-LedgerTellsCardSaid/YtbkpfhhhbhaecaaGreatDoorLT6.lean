/-
  CONTRACTS over what a walk owns: a function that hands back a plain value, or plain data.
-/
import Derived.Test.YtbkpfhhhbhaecaaGreatDoorLT3
import Derived.Test.YtbkpfhhhbhaecaaGreatDoorLT1
import Derived.Shelf.Strings.Builder1
import Derived.Shelf.Strconv.Itoa3
import Derived.Lib.AppendStr
import Derived.Lib.LaidTab
import Derived.LaidMore
import Derived.OpenShut
import Derived.Stop.Joined
import Derived.Shelf.Small.Strs
import Derived.Shelf.Small.Wraps
import Derived.Shelf.Strings.BuilderF
import Derived.Shelf.Strings.BuilderK
import Derived.Shelf.Strconv.Atoi
import Derived.Shelf.Strconv.Itoa0
import Derived.Shelf.Strconv.Itoa1
import Derived.Shelf.LaysM
import Derived.Shelf.Strconv.Itoa2
import Derived.Shelf.Strconv.AtoiErrFast
import Derived.Shelf.Strconv.ParseIntEmpty
import Derived.Shelf.Strconv.AtoiFail
import Derived.Shelf.Strconv.Clone
import Derived.Shelf.Strconv.SyntaxError
import Derived.Shelf.LaysC
import Derived.Shelf.Strconv.ToError
import Derived.Shelf.Strconv.Lower
import Derived.Shelf.Strconv.ParseUint10
import Derived.Shelf.Strconv.ParseUint10Empty
import Derived.Shelf.Strconv.ParseUint10Any
import Derived.Shelf.Strconv.ParseInt10
import Derived.Shelf.Strconv.AtoiLong
import Derived.Shelf.Strconv.AtoiInnerAll
import Derived.Shelf.Strconv.RangeError
import Derived.Shelf.Strconv.ToErrorRange
import Derived.Shelf.Strconv.AtoiAll
import Derived.Shelf.Strconv.ErrVarAll
import Derived.Shelf.Strings.Search1
import Derived.Shelf.Strings.Prefix
import Derived.Shelf.Strings.BuilderCap
import Derived.Shelf.Slices.SearchI
import Derived.Test.YtbkpfhhhbhaecaaGreatDoorRows
import Derived.Test.YtbkpfhhhbhaecaaGreatDoorLT4
import Derived.Lib.Bytealg

section
set_option linter.unusedVariables false
set_option linter.unusedSimpArgs false
namespace Go.Vc

section
variable {P : Program} {W w : World} {S F : List Own} {Φ Ψ : PW}

structure Quiet (P : Program) (f : FuncId) (args : Array Value) (v : Value) : Prop where
  go : ∀ w, Calls P f args w fun e w' => e = .returned v ∧ w' = w

structure Gives (P : Program) (f : FuncId) (args : Array Value) (v : Value) : Prop where
  go : ∀ (W w : World) (S : List Own) (Φ : PW), Stable Φ → Ctx W w S Φ → Calls P f args w fun e w' => e = .returned v ∧ Ctx W w' S Φ

theorem Quiet.at {f : FuncId} {args : Array Value} {v : Value} (h : Quiet P f args v) {w w0 : World} (e : w = w0) : Calls P f args w fun e w' => e = .returned v ∧ w' = w0 := by subst e; exact h.go w
theorem Quiet.gives {f : FuncId} {args : Array Value} {v : Value} (h : Quiet P f args v) : Gives P f args v :=
  ⟨fun W w S Φ _ c => (h.go w).mono fun e w' ⟨h1, h2⟩ => by subst h2; exact ⟨h1, c⟩⟩

theorem Gives.use {f : FuncId} {args : Array Value} {v : Value} (h : Gives P f args v) [hs : Stable Φ] (c : Ctx W w S Φ) {K : Ending → World → Prop} (hk : ∀ w', Ctx W w' S Φ → K (.returned v) w') : Calls P f args w K :=
  (h.go W w S Φ hs c).mono fun e w' ⟨he, c'⟩ => by subst he; exact hk w' c'

theorem gives_of {f : FuncId} {args : Array Value} {v : Value} {B : World → List Own → PW → (Value → World → Prop) → Prop}
    (run : ∀ {W w : World} {R : List Own} {Φ : PW} [Stable Φ] {J : Value → World → Prop}, Ctx W w R Φ → B W R Φ J → Calls P f args w fun e w' => ∃ v, e = .returned v ∧ J v w')
    (h : ∀ (W : World) (R : List Own) (Φ : PW), Stable Φ → B W R Φ fun u w' => u = v ∧ Ctx W w' R Φ) : Gives P f args v :=
  ⟨fun W w S Φ hs c => calls_of (run c (h W S Φ hs)) fun u w' ⟨h1, h2⟩ => ⟨by rw [h1], h2⟩⟩

structure GivesIn (Φ : PW) (P : Program) (f : FuncId) (args : Array Value) (v : Value) : Prop where
  go : ∀ (W w : World) (S : List Own), Ctx W w S Φ → Calls P f args w fun e w' => e = .returned v ∧ Ctx W w' S Φ

theorem GivesIn.use {f : FuncId} {args : Array Value} {v : Value} (h : GivesIn Φ P f args v) (c : Ctx W w S Φ) {K : Ending → World → Prop} (hk : ∀ w', Ctx W w' S Φ → K (.returned v) w') : Calls P f args w K :=
  (h.go W w S c).mono fun e w' ⟨he, c'⟩ => by subst he; exact hk w' c'

theorem Gives.in [hs : Stable Φ] {f : FuncId} {args : Array Value} {v : Value} (h : Gives P f args v) : GivesIn Φ P f args v := ⟨fun W w S c => h.go W w S Φ hs c⟩

theorem gives_in [Stable Φ] {f : FuncId} {args : Array Value} {v : Value} {B : World → List Own → PW → (Value → World → Prop) → Prop}
    (run : ∀ {W w : World} {R : List Own} {Φ : PW} [Stable Φ] {J : Value → World → Prop}, Ctx W w R Φ → B W R Φ J → Calls P f args w fun e w' => ∃ v, e = .returned v ∧ J v w')
    (h : ∀ (W : World) (R : List Own), B W R Φ fun u w' => u = v ∧ Ctx W w' R Φ) : GivesIn Φ P f args v :=
  ⟨fun W w S c => calls_of (run c (h W S)) fun u w' ⟨h1, h2⟩ => ⟨by rw [h1], h2⟩⟩

theorem Ctx.left [Stable Φ] (c : Ctx W w (S ++ F) Φ) : Ctx W w S Φ := c.sub (List.sublist_append_left _ _)
theorem Ctx.right [Stable Φ] (c : Ctx W w (S ++ F) Φ) : Ctx W w F Φ := c.sub (List.sublist_append_right _ _)
theorem Ctx.fst [Stable Φ] [Stable Ψ] (c : Ctx W w S (fun M w => Φ M w ∧ Ψ M w)) : Ctx W w S Φ := c.weak fun _ _ h => h.1

theorem rows_of {cs vs : List Value} {o : Nat} (h : (cs.drop o).take vs.length = vs) : ∀ j, (hj : j < vs.length) → cs[o + j]? = some vs[j] := by
  intro j hj
  have h1 : ((cs.drop o).take vs.length)[j]? = vs[j]? := by rw [h]
  rw [List.getElem?_take_of_lt hj, List.getElem?_drop] at h1
  rw [h1, List.getElem?_eq_getElem hj]

end

def Pin {α : Type} [Gv α] (b o : Nat) (cs : List (List Value)) (l : List α) (M : List Nat) (w : World) : Prop :=
  ∀ j, (hj : j < l.length) → b ∉ M ∧ RowAt w b (o + j * (Gv.ty α).size) (cs.getD j []) ∧ Gv.rep M w (cs.getD j []) l[j]

instance instStablePin {α : Type} [Gv α] (b o : Nat) (cs : List (List Value)) (l : List α) : Stable (fun M w => Pin b o cs l M w) := ⟨fun hs h j hj => by
  obtain ⟨h2, h3, h4⟩ := h j hj
  have hlt := row_lt h3 (by rw [Gv.len h4]; exact Gv.pos)
  exact ⟨fun hm => by rcases hs.sub b hm with h | h; exact h2 h; omega, hs.chg.row h3 h2, Gv.stable hs h4⟩⟩

theorem Sl.pin {α : Type} [Gv α] {M : List Nat} {w : World} {p : Option Addr} {l : List α} (h : Sl M w p l) : ∃ b o cs, (0 < l.length → p = some ⟨b, o, none⟩) ∧ Pin b o cs l M w := by
  by_cases h0 : 0 < l.length
  · obtain ⟨b, o, _, hp, _⟩ := h 0 h0
    have key : ∀ j, j < l.length → ∃ cs : List Value, ∀ hj : j < l.length, b ∉ M ∧ RowAt w b (o + j * (Gv.ty α).size) cs ∧ Gv.rep M w cs l[j] := by
      intro j hj
      obtain ⟨b', o', cs, h1, h2, h3, h4⟩ := h j hj
      rw [hp] at h1
      cases h1
      exact ⟨cs, fun _ => ⟨h2, h3, h4⟩⟩
    obtain ⟨cs, hl, hcs⟩ := list_build l.length key
    refine ⟨b, o, cs, fun _ => hp, fun j hj => ?_⟩
    have := hcs j (by omega) hj
    rw [show cs.getD j [] = cs[j] by simp [List.getD, show j < cs.length by omega]]
    exact this
  · exact ⟨0, 0, [], fun h => absurd h h0, fun j hj => by omega⟩

theorem Ctx.pin {W w : World} {S : List Own} {Φ : PW} (c : Ctx W w S Φ) {α : Type} [Gv α] {p : Option Addr} {l : List α} (h : Sl (dom S) w p l) :
    ∃ b o cs, (0 < l.length → p = some ⟨b, o, none⟩) ∧ Ctx W w S (fun M w => Φ M w ∧ Pin b o cs l M w) := by
  obtain ⟨b, o, cs, hp, hpin⟩ := h.pin
  exact ⟨b, o, cs, hp, c.add hpin⟩

theorem GivesIn.pinned {Φ : PW} [Stable Φ] {P : Program} {f : FuncId} {args : Array Value} {v : Value} {α : Type} [Gv α] {p : Option Addr} {l : List α} (hΦ : ∀ M w, Φ M w → Sl M w p l)
    (h : ∀ b o cs, (0 < l.length → p = some ⟨b, o, none⟩) → GivesIn (fun M w => Φ M w ∧ Pin b o cs l M w) P f args v) : GivesIn Φ P f args v :=
  ⟨fun W w S c => by
    obtain ⟨b, o, cs, hp, c'⟩ := c.pin (hΦ _ _ c.phi)
    exact ((h b o cs hp).go W w S c').mono fun e w' ⟨h1, h2⟩ => ⟨h1, h2.fst⟩⟩

end Go.Vc
end

section
set_option linter.unusedVariables false
set_option linter.unusedSimpArgs false
namespace Go.Vc

section
variable {P : Program} {W w : World} {S F : List Own} {Φ Ψ : PW}

def Parked (W : World) (o : Own) (M : List Nat) (w : World) : Prop := o.at w ∧ ∀ b ∈ o.dom, b ∉ M ∧ W.heap.size ≤ b

instance instStableParked (W : World) (o : Own) : Stable (fun M w => Parked W o M w) := ⟨fun hs h =>
  ⟨Own.at_keep h.1 fun b hb => hs.chg.block b (Own.at_lt h.1 b hb) (h.2 b hb).1, fun b hb => ⟨fun hm => by
    rcases hs.sub b hm with h1 | h1
    · exact (h.2 b hb).1 h1
    · have := Own.at_lt h.1 b hb; omega, (h.2 b hb).2⟩⟩⟩

instance instStableMore (D : List Nat) (Φ : PW) [Stable Φ] : Stable (fun M w => Φ (D ++ M) w) := ⟨fun {M M' w w'} hs h =>
  Stable.step (Φ := Φ) (M := D ++ M) (M' := D ++ M') ⟨hs.chg.mono fun x hx => List.mem_append_right _ hx, fun b hb => by
    rcases List.mem_append.1 hb with h | h
    · exact .inl (List.mem_append_left _ h)
    · rcases hs.sub b h with h | h
      · exact .inl (List.mem_append_right _ h)
      · exact .inr h⟩ h⟩

theorem Own.nodup (o : Own) : o.dom.Nodup := by
  cases o with
  | blk => simp [Own.dom]
  | obj => simp [Own.dom]
  | buf p => cases p <;> simp [Own.dom]

theorem dom_cons (o : Own) (S : List Own) : dom (o :: S) = o.dom ++ dom S := rfl

theorem Ctx.park {o : Own} (c : Ctx W w (o :: S) Φ) : Ctx W w S (fun M w => Φ (o.dom ++ M) w ∧ Parked W o M w) :=
  ⟨c.chg, fun x hx => c.own x (List.mem_cons_of_mem _ hx), fun b hb => c.young b (by rw [dom_cons]; exact List.mem_append_right _ hb),
    (by have := c.nodup; rw [dom_cons, List.nodup_append] at this; exact this.2.1), c.phi, c.own o List.mem_cons_self, fun b hb =>
      ⟨fun hm => by have := c.nodup; rw [dom_cons, List.nodup_append] at this; exact this.2.2 b hb b hm rfl, c.young b (by rw [dom_cons]; exact List.mem_append_left _ hb)⟩⟩

def There (p : Option Addr) (n : Nat) : Prop := 0 < n → ∃ b o, p = some ⟨b, o, none⟩
theorem Sl.there {α : Type} [Gv α] {M : List Nat} {w : World} {p : Option Addr} {l : List α} (h : Sl M w p l) : There p l.length := fun h0 => by
  obtain ⟨b, o, _, h1, _⟩ := h 0 h0
  exact ⟨b, o, h1⟩
theorem Sl.nil {α : Type} [Gv α] {M : List Nat} {w : World} {p : Option Addr} : Sl M w p ([] : List α) := fun j hj => by simp at hj

theorem GivesIn.there {f : FuncId} {args : Array Value} {v : Value} {p : Option Addr} {n : Nat} (hΦ : ∀ M w, Φ M w → There p n) (h : There p n → GivesIn Φ P f args v) : GivesIn Φ P f args v :=
  ⟨fun W w S c => (h (hΦ _ _ c.phi)).go W w S c⟩

structure GivesSl (Φ : PW) (P : Program) (f : FuncId) (args : Array Value) {α : Type} [Gv α] (l : List α) (mk : Value → Value) : Prop where
  go : ∀ (W w : World) (S : List Own), Ctx W w S Φ → Calls P f args w fun e w' => ∃ p cap, e = .returned (mk (.slice p l.length cap)) ∧ l.length ≤ cap ∧ cap ≤ maxLen ∧ Ctx W w' S (fun M w => Φ M w ∧ Sl M w p l)

theorem GivesSl.use {f : FuncId} {args : Array Value} {α : Type} [Gv α] {l : List α} {mk : Value → Value} (h : GivesSl Φ P f args l mk) (c : Ctx W w S Φ) {K : Ending → World → Prop}
    (hk : ∀ p cap w', l.length ≤ cap → cap ≤ maxLen → Ctx W w' S (fun M w => Φ M w ∧ Sl M w p l) → K (.returned (mk (.slice p l.length cap))) w') : Calls P f args w K :=
  (h.go W w S c).mono fun e w' ⟨p, cap, he, h1, h2, c'⟩ => by subst he; exact hk p cap w' h1 h2 c'

theorem gives_sl [Stable Φ] {f : FuncId} {args : Array Value} {α : Type} [Gv α] {l : List α} {mk : Value → Value} {B : World → List Own → PW → (Value → World → Prop) → Prop}
    (run : ∀ {W w : World} {R : List Own} {Φ : PW} [Stable Φ] {J : Value → World → Prop}, Ctx W w R Φ → B W R Φ J → Calls P f args w fun e w' => ∃ v, e = .returned v ∧ J v w')
    (h : ∀ (W : World) (R : List Own), B W R Φ fun u w' => ∃ p cap, u = mk (.slice p l.length cap) ∧ l.length ≤ cap ∧ cap ≤ maxLen ∧ Ctx W w' R (fun M w => Φ M w ∧ Sl M w p l)) : GivesSl Φ P f args l mk :=
  ⟨fun W w S c => calls_of (run c (h W S)) fun u w' ⟨p, cap, h1, h2⟩ => ⟨p, cap, by rw [h1], h2⟩⟩

theorem GivesSl.there {f : FuncId} {args : Array Value} {α : Type} [Gv α] {l : List α} {mk : Value → Value} {p : Option Addr} {n : Nat} (hΦ : ∀ M w, Φ M w → There p n) (h : There p n → GivesSl Φ P f args l mk) : GivesSl Φ P f args l mk :=
  ⟨fun W w S c => (h (hΦ _ _ c.phi)).go W w S c⟩

theorem GivesSl.pinned [Stable Φ] {f : FuncId} {args : Array Value} {β : Type} [Gv β] {r : List β} {mk : Value → Value} {α : Type} [Gv α] {p : Option Addr} {l : List α} (hΦ : ∀ M w, Φ M w → Sl M w p l)
    (h : ∀ b o cs, (0 < l.length → p = some ⟨b, o, none⟩) → GivesSl (fun M w => Φ M w ∧ Pin b o cs l M w) P f args r mk) : GivesSl Φ P f args r mk :=
  ⟨fun W w S c => by
    obtain ⟨b, o, cs, hp, c'⟩ := c.pin (hΦ _ _ c.phi)
    exact ((h b o cs hp).go W w S c').mono fun e w' ⟨p, cap, h1, h2, h3, h4⟩ => ⟨p, cap, h1, h2, h3, h4.weak fun _ _ h => ⟨h.1.1, h.2⟩⟩⟩

def appB (P : Program) (ts t : TypeId) (size bytes : Nat) : Bool :=
  (match P.underlying ts with | some (.slice u) => decide (u = t) | _ => false) && (match P.info? t with
    | some i => (match i.zero with | some z => decide (z.cells.size = size) | none => false) && decide (i.size = size) && decide (i.bytes = bytes)
    | none => false)

theorem appB_out {ts t : TypeId} {size bytes : Nat} (h : appB P ts t size bytes = true) : ∃ i z, P.underlying ts = some (.slice t) ∧ P.info? t = some i ∧ i.zero = some z ∧ i.size = size ∧ z.cells.size = size ∧ i.bytes = bytes := by
  unfold appB at h
  rw [Bool.and_eq_true] at h
  obtain ⟨h1, h2⟩ := h
  split at h1
  · rename_i u hu
    have : u = t := by simpa using h1
    subst this
    split at h2
    · rename_i i hi
      simp only [Bool.and_eq_true] at h2
      obtain ⟨⟨h2, h3⟩, h4⟩ := h2
      split at h2
      · rename_i z hz
        exact ⟨i, z, hu, hi, hz, by simpa using h3, by simpa using h2, by simpa using h4⟩
      · cases h2
    · cases h2
  · cases h1

theorem run_app {ats : Array TypeId} {ty : TypeId} {cs : Array Bool} {args : Array Value} {v : Value} {w w' : World} (h : (Builtin.append_ ats ty args).run P w = .ok v w') : Sem.run P (builtin Builtin.append ats ty cs args) w = .ok (.value v) w' := by
  unfold builtin
  simp only [Sem.run_bind, h, Result.andThen, Sem.run_pure]

theorem Ctx.app1 [Stable Φ] {b : Nat} {news : List Value} {t' : TypeId} {p : Option Addr} {n cap : Nat} {cs : List Value} {t : TypeId} {size bytes : Nat} (c : Ctx W w (.blk b news t' :: .buf p n cap cs t size :: S) Φ)
    {ts ty : TypeId} {kb : Array Bool} (hb : appB P ts t size bytes = true) (h0 : 0 < size) (hl : news.length = size) (h1 : (news.all fun u => oneC u) = true) (hlen : n < 100000000) (hbytes : bytes ≤ 1000) :
    ∃ p' cap' w', Sem.run P (builtin Builtin.append #[ts, ts] ty kb #[.slice p n cap, .slice (some ⟨b, 0, none⟩) 1 1]) w = .ok (.value (.slice p' (n + 1) cap')) w' ∧ (∃ g, p' = some ⟨g, 0, none⟩) ∧ Ctx W w' (.buf p' (n + 1) cap' (cs ++ news) t size :: S) Φ := by
  obtain ⟨i, z, e1, e2, e3, e4, e5, e6⟩ := appB_out hb
  have hby : (n + 1) * i.bytes ≤ 100000000 * 1000 := Nat.mul_le_mul (by omega) (by omega)
  obtain ⟨p', cap', w', h2, c'⟩ := c.append 1 rfl (ty := ty) e1 e2 e3 e4 e5 (a := ⟨b, 0, none⟩) (m := 1) (c2 := 1) (news := news) (by omega) (by rw [hl, Nat.one_mul]) (fun j u hj => by rw [addr_add, Nat.zero_add]; exact c.get 0 rfl hj)
    (fun u hu => List.all_eq_true.1 h1 u hu) (by omega) (by omega)
  refine ⟨p', cap', w', run_app h2, ?_, c'.drop1⟩
  obtain ⟨g, hg, _⟩ := c'.bufCell 1 rfl (by rw [List.length_append]; omega)
  exact ⟨g, hg⟩

theorem Ctx.nobuf [Stable Φ] (c : Ctx W w S Φ) (t : TypeId) (size : Nat) : Ctx W w (.buf none 0 0 [] t size :: S) Φ := c.buf0 t size

theorem Sl.less {α : Type} [Gv α] {M D : List Nat} {w : World} {p : Option Addr} {l : List α} (h : Sl (D ++ M) w p l) : Sl M w p l :=
  h.stable ⟨Chg.refl _ _, fun b hb => .inl (List.mem_append_right _ hb)⟩

structure GivesBuf (Φ : PW) (P : Program) (f : FuncId) (args : Array Value) (n : Nat) (cells : List Value) (t : TypeId) (size : Nat) (mk : Value → Value) : Prop where
  go : ∀ (W w : World) (S : List Own), Ctx W w S Φ → Calls P f args w fun e w' => ∃ p cap, e = .returned (mk (.slice p n cap)) ∧ Ctx W w' (.buf p n cap cells t size :: S) Φ

theorem GivesBuf.use {f : FuncId} {args : Array Value} {n : Nat} {cells : List Value} {t : TypeId} {size : Nat} {mk : Value → Value} (h : GivesBuf Φ P f args n cells t size mk) (c : Ctx W w S Φ) {K : Ending → World → Prop}
    (hk : ∀ p cap w', Ctx W w' (.buf p n cap cells t size :: S) Φ → K (.returned (mk (.slice p n cap))) w') : Calls P f args w K :=
  (h.go W w S c).mono fun e w' ⟨p, cap, he, c'⟩ => by subst he; exact hk p cap w' c'

theorem GivesBuf.pinned [Stable Φ] {f : FuncId} {args : Array Value} {n : Nat} {cells : List Value} {t : TypeId} {size : Nat} {mk : Value → Value} {α : Type} [Gv α] {p : Option Addr} {l : List α} (hΦ : ∀ M w, Φ M w → Sl M w p l)
    (h : ∀ b o cs, (0 < l.length → p = some ⟨b, o, none⟩) → GivesBuf (fun M w => Φ M w ∧ Pin b o cs l M w) P f args n cells t size mk) : GivesBuf Φ P f args n cells t size mk :=
  ⟨fun W w S c => by
    obtain ⟨b, o, cs, hp, c'⟩ := c.pin (hΦ _ _ c.phi)
    exact ((h b o cs hp).go W w S c').mono fun e w' ⟨p, cap, h1, h4⟩ => ⟨p, cap, h1, h4.fst⟩⟩

theorem Parked.blkSl {α : Type} [Gv α] {M : List Nat} {b : Nat} {cs : List Value} {t : TypeId} {l : List α} (h : Parked W (.blk b cs t) M w) (he : Elems M w cs l) : Sl M w (some ⟨b, 0, none⟩) l := by
  obtain ⟨h1, h2⟩ := h
  have h1 : Blk w b cs t := h1
  intro j hj
  have hle : (j + 1) * (Gv.ty α).size ≤ cs.length := by rw [he.1]; exact Nat.mul_le_mul_right _ hj
  rw [Nat.add_mul, Nat.one_mul] at hle
  refine ⟨b, 0, (cs.drop (j * (Gv.ty α).size)).take (Gv.ty α).size, rfl, (h2 b (by simp [Own.dom])).1, fun i hi => ?_, he.2 j hj⟩
  simp only [List.length_take, List.length_drop] at hi
  rw [Nat.zero_add, List.getElem_take, List.getElem_drop]
  exact h1.cell_eq (List.getElem?_eq_getElem (by omega))

theorem Ctx.freezeBlk [Stable Φ] {α : Type} [Gv α] {b : Nat} {cs : List Value} {t : TypeId} {l : List α} (c : Ctx W w (.blk b cs t :: S) Φ) (he : Elems (dom (.blk b cs t :: S)) w cs l) : Ctx W w S Φ ∧ Sl (dom S) w (some ⟨b, 0, none⟩) l := by
  have c' := c.park
  refine ⟨c.drop1, c'.phi.2.blkSl ⟨he.1, fun j hj => ?_⟩⟩
  exact Gv.stable ⟨Chg.refl _ _, fun b hb => .inl (by rw [dom_cons]; exact List.mem_append_right _ hb)⟩ (he.2 j hj)

theorem Elems.two {α : Type} [Gv α] {M : List Nat} {cs ds : List Value} {x y : α} (h1 : Gv.rep M w cs x) (h2 : Gv.rep M w ds y) : Elems M w (cs ++ ds) [x, y] := Elems.snoc (l := [x]) (Elems.snoc (l := []) (cs := []) Elems.nil h1) h2
theorem Elems.one {α : Type} [Gv α] {M : List Nat} {cs : List Value} {x : α} (h1 : Gv.rep M w cs x) : Elems M w cs [x] := Elems.snoc (l := []) (cs := []) Elems.nil h1

end

end Go.Vc
end

section
set_option linter.unusedVariables false
set_option linter.unusedSimpArgs false
namespace Go.Vc

section
variable {P : Program} {W w w' : World} {S S' F : List Own} {Φ Ψ : PW}

theorem Ctx.swap [Stable Φ] {a b : Own} (c : Ctx W w (a :: b :: S) Φ) : Ctx W w (b :: a :: S) Φ := c.perm (List.Perm.swap _ _ _)

theorem Ctx.bufBlk (c : Ctx W w S Φ) (k : Nat) {p : Option Addr} {n cap : Nat} {cs : List Value} {t : TypeId} {size : Nat} (hk : S[k]? = some (.buf p n cap cs t size)) (h0 : 0 < cs.length) :
    ∃ b cur, p = some ⟨b, 0, none⟩ ∧ Blk w b cur t ∧ cur.take (n * size) = cs ∧ n ≤ cap ∧ cap ≤ maxLen ∧ cur.length = cap * size ∧ cs.length = n * size := by
  obtain ⟨h1, h2⟩ := c.own _ (List.mem_of_getElem? hk)
  rcases h2 with ⟨e, rfl⟩ | ⟨g, cap', cur, e, _, hg, hnc, hcm, hcs, htake⟩
  · rw [Nat.zero_mul] at h1; omega
  · cases e
    exact ⟨g, cur.toList, rfl, by simpa [Blk] using hg, htake, hnc, hcm, by simpa using hcs, h1⟩

theorem Ctx.bufRow (c : Ctx W w S Φ) (k : Nat) {p : Option Addr} {n cap : Nat} {cs : List Value} {t : TypeId} {size : Nat} (hk : S[k]? = some (.buf p n cap cs t size)) {b o : Nat} (hp : p = some ⟨b, 0, none⟩) {vs : List Value}
    (hv : ∀ j, (hj : j < vs.length) → cs[o + j]? = some vs[j]) : RowAt w b o vs := by
  intro j hj
  have hlt : o + j < cs.length := (List.getElem?_eq_some_iff.1 (hv j hj)).1
  obtain ⟨b', h1, _, h2⟩ := c.bufCell k hk (by omega)
  rw [hp] at h1
  cases h1
  exact (h2 _ _ (hv j hj)).1

theorem Ctx.bufCan (c : Ctx W w S Φ) (k : Nat) {p : Option Addr} {n cap : Nat} {cs : List Value} {t : TypeId} {size : Nat} (hk : S[k]? = some (.buf p n cap cs t size)) {b o m : Nat} (hp : p = some ⟨b, 0, none⟩) (hm : o + m ≤ cs.length) : CanWrite w b o m := by
  intro j hj
  obtain ⟨b', h1, _, h2⟩ := c.bufCell k hk (by omega)
  rw [hp] at h1
  cases h1
  have := h2 (o + j) cs[o + j] (List.getElem?_eq_getElem (by omega))
  exact ⟨by rw [this.1]; rfl, this.2⟩

theorem setL_len : ∀ (vs : List Value) (cs : List Value) (o : Nat), (setL cs o vs).length = cs.length
  | [], _, _ => rfl
  | v :: r, cs, o => by unfold setL; rw [setL_len r]; simp

theorem setL_take : ∀ (vs : List Value) (cs : List Value) (o m : Nat), o + vs.length ≤ m → (setL cs o vs).take m = setL (cs.take m) o vs
  | [], _, _, _, _ => rfl
  | v :: r, cs, o, m, h => by
    unfold setL
    simp only [List.length_cons] at h
    rw [setL_take r _ _ _ (by omega), List.take_set]

theorem setL_get : ∀ (vs : List Value) (cs : List Value) (o i : Nat), (i < o ∨ o + vs.length ≤ i) → (setL cs o vs)[i]? = cs[i]?
  | [], _, _, _, _ => rfl
  | v :: r, cs, o, i, h => by
    unfold setL
    simp only [List.length_cons] at h
    rw [setL_get r _ _ _ (by omega), List.getElem?_set_ne (by omega)]

theorem setL_in : ∀ (vs : List Value) (cs : List Value) (o i : Nat), i < vs.length → o + vs.length ≤ cs.length → (setL cs o vs)[o + i]? = vs[i]?
  | [], _, _, _, h, _ => by simp at h
  | v :: r, cs, o, 0, h, hl => by
    unfold setL
    simp only [List.length_cons] at hl
    rw [setL_get r _ _ _ (by omega), Nat.add_zero, List.getElem?_set_self (by omega)]
    rfl
  | v :: r, cs, o, i + 1, h, hl => by
    unfold setL
    simp only [List.length_cons] at hl h
    rw [show o + (i + 1) = o + 1 + i by omega, setL_in r _ _ _ (by omega) (by simp; omega)]
    rfl

theorem Ctx.bufPuts [Stable Φ] (c : Ctx W w S Φ) (k : Nat) {p : Option Addr} {n cap : Nat} {cs vs : List Value} {t : TypeId} {size : Nat} (hk : S[k]? = some (.buf p n cap cs t size)) {b o : Nat} (hp : p = some ⟨b, 0, none⟩) (h0 : 0 < cs.length) (ho : o + vs.length ≤ cs.length)
    (e : w' = w.setCells b o vs) : Ctx W w' (S.set k (.buf p n cap (setL cs o vs) t size)) Φ := by
  obtain ⟨b', cur, h1, hb, htake, hnc, hcm, hcl, hl⟩ := c.bufBlk k hk h0
  rw [hp] at h1
  cases h1
  subst e
  refine c.upd hk ((Chg.refl _ _).setCells (by subst hp; simp [Own.dom]) o vs) (fun x hx => .inl (by subst hp; exact hx)) (by subst hp; simp [Own.dom]) ?_
  have hb' := Blk.sets vs o hb
  refine ⟨by rw [setL_len, hl], .inr ⟨b, cap, (setL cur o vs).toArray, by rw [hp], Nat.zero_le _, hb', hnc, hcm, by simp [setL_len, hcl], ?_⟩⟩
  rw [← htake, setL_take _ _ _ _ (by omega)]

theorem Elems.setAt {α : Type} [Gv α] {M : List Nat} {cs d : List Value} {l : List α} {x : α} (h : Elems M w cs l) (k : Nat) (hk : k < l.length) (hx : Gv.rep M w d x) : Elems M w (setL cs (k * (Gv.ty α).size) d) (l.set k x) := by
  have hd := Gv.len hx
  refine ⟨by rw [setL_len, h.1]; simp, fun j hj => ?_⟩
  have hj : j < l.length := by simpa using hj
  have hle : (k + 1) * (Gv.ty α).size ≤ cs.length := by rw [h.1]; exact Nat.mul_le_mul_right _ hk
  have hlj : (j + 1) * (Gv.ty α).size ≤ cs.length := by rw [h.1]; exact Nat.mul_le_mul_right _ hj
  rw [Nat.add_mul, Nat.one_mul] at hle hlj
  by_cases hjk : k = j
  · subst hjk
    rw [List.getElem_set_self]
    have : ((setL cs (k * (Gv.ty α).size) d).drop (k * (Gv.ty α).size)).take (Gv.ty α).size = d := by
      apply List.ext_getElem?
      intro i
      by_cases hi : i < (Gv.ty α).size
      · rw [List.getElem?_take_of_lt hi, List.getElem?_drop, setL_in _ _ _ _ (by omega) (by omega)]
      · rw [List.getElem?_eq_none (by simp; omega), List.getElem?_eq_none (by omega)]
    rw [this]
    exact hx
  · rw [List.getElem_set_ne hjk]
    have : ((setL cs (k * (Gv.ty α).size) d).drop (j * (Gv.ty α).size)).take (Gv.ty α).size = (cs.drop (j * (Gv.ty α).size)).take (Gv.ty α).size := by
      apply List.ext_getElem?
      intro i
      by_cases hi : i < (Gv.ty α).size
      · rw [List.getElem?_take_of_lt hi, List.getElem?_drop, List.getElem?_take_of_lt hi, List.getElem?_drop]
        refine setL_get _ _ _ _ ?_
        rw [hd]
        rcases Nat.lt_or_gt_of_ne hjk with hlt | hlt
        · right
          have := Nat.mul_le_mul_right (Gv.ty α).size (show k + 1 ≤ j from hlt)
          rw [Nat.add_mul, Nat.one_mul] at this
          omega
        · left
          have := Nat.mul_le_mul_right (Gv.ty α).size (show j + 1 ≤ k from hlt)
          rw [Nat.add_mul, Nat.one_mul] at this
          omega
      · rw [List.getElem?_eq_none (by simp [setL_len]; omega), List.getElem?_eq_none (by simp; omega)]
    rw [this]
    exact h.2 j hj

theorem Sl.cells {α : Type} [Gv α] {M : List Nat} {p : Option Addr} {l : List α} (h : Sl M w p l) (h1 : ∀ M w cs (x : α), Gv.rep M w cs x → (cs.all fun u => oneC u) = true) (h0 : 0 < l.length) :
    ∃ b o news, p = some ⟨b, o, none⟩ ∧ news.length = l.length * (Gv.ty α).size ∧ (∀ j u, news[j]? = some u → w.cell? ⟨b, o + j, none⟩ = some u) ∧ Elems M w news l ∧ (news.all fun u => oneC u) = true := by
  obtain ⟨b, o, _, hp, _⟩ := h 0 h0
  have key : ∀ k, k ≤ l.length → ∃ news : List Value, news.length = k * (Gv.ty α).size ∧ (∀ j u, news[j]? = some u → w.cell? ⟨b, o + j, none⟩ = some u) ∧ Elems M w news (l.take k) ∧ (news.all fun u => oneC u) = true := by
    intro k
    induction k with
    | zero => intro _; exact ⟨[], by simp, fun j u hj => by simp at hj, by rw [List.take_zero]; exact Elems.nil, rfl⟩
    | succ k ih =>
      intro hk
      obtain ⟨news, g1, g2, g3, g4⟩ := ih (by omega)
      obtain ⟨b', o', cs, e1, _, e3, e4⟩ := h k (by omega)
      rw [hp] at e1
      cases e1
      have hlen := Gv.len e4
      refine ⟨news ++ cs, by rw [List.length_append, g1, hlen, Nat.add_mul, Nat.one_mul], fun j u hj => ?_, ?_, by rw [List.all_append, g4, h1 _ _ _ _ e4]; rfl⟩
      · by_cases hlt : j < news.length
        · rw [List.getElem?_append_left hlt] at hj
          exact g2 j u hj
        · rw [List.getElem?_append_right (by omega)] at hj
          have hl2 : j - news.length < cs.length := (List.getElem?_eq_some_iff.1 hj).1
          have := e3 (j - news.length) hl2
          rw [show o + k * (Gv.ty α).size + (j - news.length) = o + j by omega] at this
          rw [this, ← hj, List.getElem?_eq_getElem hl2]
      · rw [List.take_succ_eq_append_getElem (by omega)]
        exact g3.snoc e4
  obtain ⟨news, g1, g2, g3, g4⟩ := key l.length (Nat.le_refl _)
  rw [List.take_length] at g3
  exact ⟨b, o, news, hp, g1, g2, g3, g4⟩

theorem Ctx.appSl [Stable Φ] {α : Type} [Gv α] {q : Option Addr} {l : List α} {c2 : Nat} {p : Option Addr} {n cap : Nat} {cs : List Value} {t : TypeId} {bytes : Nat} (c : Ctx W w (.buf p n cap cs t (Gv.ty α).size :: S) Φ)
    {ts ty : TypeId} {kb : Array Bool} (hb : appB P ts t (Gv.ty α).size bytes = true) (h1 : ∀ M w cs (x : α), Gv.rep M w cs x → (cs.all fun u => oneC u) = true) (hsl : ∀ M w, Φ M w → Sl M w q l) (h0 : 0 < l.length) (hlen : n + l.length < 100000000) (hbytes : bytes ≤ 1000) :
    ∃ p' cap' w' news, Sem.run P (builtin Builtin.append #[ts, ts] ty kb #[.slice p n cap, .slice q l.length c2]) w = .ok (.value (.slice p' (n + l.length) cap')) w' ∧ (∃ g, p' = some ⟨g, 0, none⟩) ∧
      Ctx W w' (.buf p' (n + l.length) cap' (cs ++ news) t (Gv.ty α).size :: S) (fun M w => Φ M w ∧ Elems M w news l) := by
  obtain ⟨i, z, e1, e2, e3, e4, e5, e6⟩ := appB_out hb
  have hby : (n + l.length) * i.bytes ≤ 100000000 * 1000 := Nat.mul_le_mul (by omega) (by omega)
  obtain ⟨b, o, news, hp, g1, g2, g3, g4⟩ := (hsl _ _ c.phi).cells h1 h0
  obtain ⟨p', cap', w', h2, c'⟩ := (c.add (Ψ := fun M w => Elems M w news l) g3).append 0 rfl (ty := ty) e1 e2 e3 e4 e5 (a := ⟨b, o, none⟩) (m := l.length) (c2 := c2) (news := news) h0 g1 (fun j u hj => by rw [addr_add]; exact g2 j u hj)
    (fun u hu => List.all_eq_true.1 g4 u hu) (by omega) (by omega)
  have hpos : 0 < (Gv.ty α).size := Gv.pos
  have hl2 : 0 < l.length * (Gv.ty α).size := Nat.mul_pos h0 hpos
  refine ⟨p', cap', w', news, by rw [hp]; exact run_app h2, ?_, c'⟩
  obtain ⟨g, hg, _⟩ := c'.bufCell 0 rfl (by rw [List.length_append]; omega)
  exact ⟨g, hg⟩

end

end Go.Vc
end

section
set_option linter.unusedVariables false
set_option linter.unusedSimpArgs false
namespace Go.Vc

section
variable {P : Program} {W w w' : World} {S S' F : List Own} {Φ Ψ : PW}

theorem Stable.less {Φ : PW} [Stable Φ] {D M : List Nat} {w : World} (h : Φ (D ++ M) w) : Φ M w :=
  Stable.step (Φ := Φ) ⟨Chg.refl _ _, fun b hb => .inl (List.mem_append_right _ hb)⟩ h


structure GivesNew (Φ : PW) (P : Program) (f : FuncId) (args : Array Value) {α : Type} [Gv α] (l : List α) (t : TypeId) : Prop where
  go : ∀ (W w : World) (S : List Own), Ctx W w S Φ → Calls P f args w fun e w' => ∃ p cap cs, e = .returned (.slice p l.length cap) ∧ Ctx W w' (.buf p l.length cap cs t (Gv.ty α).size :: S) (fun M w => Φ M w ∧ Elems M w cs l)

theorem GivesNew.use {f : FuncId} {args : Array Value} {α : Type} [Gv α] {l : List α} {t : TypeId} (h : GivesNew Φ P f args l t) (c : Ctx W w S Φ) {K : Ending → World → Prop}
    (hk : ∀ p cap cs w', Ctx W w' (.buf p l.length cap cs t (Gv.ty α).size :: S) (fun M w => Φ M w ∧ Elems M w cs l) → K (.returned (.slice p l.length cap)) w') : Calls P f args w K :=
  (h.go W w S c).mono fun e w' ⟨p, cap, cs, he, c'⟩ => by subst he; exact hk p cap cs w' c'

theorem gives_new [Stable Φ] {f : FuncId} {args : Array Value} {α : Type} [Gv α] {l : List α} {t : TypeId} {B : World → List Own → PW → (Value → World → Prop) → Prop}
    (run : ∀ {W w : World} {R : List Own} {Φ : PW} [Stable Φ] {J : Value → World → Prop}, Ctx W w R Φ → B W R Φ J → Calls P f args w fun e w' => ∃ v, e = .returned v ∧ J v w')
    (h : ∀ (W : World) (R : List Own), B W R Φ fun u w' => ∃ p cap cs, u = .slice p l.length cap ∧ Ctx W w' (.buf p l.length cap cs t (Gv.ty α).size :: R) (fun M w => Φ M w ∧ Elems M w cs l)) : GivesNew Φ P f args l t :=
  ⟨fun W w S c => calls_of (run c (h W S)) fun u w' ⟨p, cap, cs, h1, h2⟩ => ⟨p, cap, cs, by rw [h1], h2⟩⟩

theorem GivesNew.there {f : FuncId} {args : Array Value} {α : Type} [Gv α] {l : List α} {t : TypeId} {p : Option Addr} {n : Nat} (hΦ : ∀ M w, Φ M w → There p n) (h : There p n → GivesNew Φ P f args l t) : GivesNew Φ P f args l t :=
  ⟨fun W w S c => (h (hΦ _ _ c.phi)).go W w S c⟩

theorem Ctx.cloned [Stable Φ] {α : Type} [Gv α] {q : Option Addr} {l : List α} {c2 : Nat} {k : Nat} {t : TypeId} {bytes : Nat} (c : Ctx W w (.blk k [] t :: S) Φ)
    {ts ty : TypeId} {kb : Array Bool} (hb : appB P ts t (Gv.ty α).size bytes = true) (h1 : ∀ M w cs (x : α), Gv.rep M w cs x → (cs.all fun u => oneC u) = true) (hsl : ∀ M w, Φ M w → Sl M w q l) (hlen : l.length < 100000000) (hbytes : bytes ≤ 1000) :
    ∃ p' cap' w' cs, Sem.run P (builtin Builtin.append #[ts, ts] ty kb #[.slice (some ⟨k, 0, none⟩) 0 0, .slice q l.length c2]) w = .ok (.value (.slice p' l.length cap')) w' ∧
      Ctx W w' (.buf p' l.length cap' cs t (Gv.ty α).size :: S) (fun M w => Φ M w ∧ Elems M w cs l) := by
  have c' : Ctx W w (.buf (some ⟨k, 0, none⟩) 0 0 [] t (Gv.ty α).size :: S) Φ := c.toBuf 0 0 (Gv.ty α).size rfl (by simp) (by simp [maxLen])
  rcases Nat.eq_zero_or_pos l.length with h0 | h0
  · obtain ⟨i, z, e1, e2, e3, e4, e5, e6⟩ := appB_out hb
    have hl : l = [] := List.eq_nil_of_length_eq_zero h0
    subst hl
    exact ⟨_, _, w, [], run_app (c'.append0 0 rfl e1 e2 q c2), c'.add Elems.nil⟩
  · obtain ⟨p', cap', w', news, h2, _, c3⟩ := c'.appSl (ty := ty) (kb := kb) (c2 := c2) hb h1 hsl h0 (by omega) hbytes
    rw [Nat.zero_add] at h2 c3
    exact ⟨p', cap', w', news, h2, c3⟩

def RowIn (b o : Nat) (vs : List Value) (M : List Nat) (w : World) : Prop := b ∉ M ∧ RowAt w b o vs ∧ b < w.heap.size

instance instStableRowIn (b o : Nat) (vs : List Value) : Stable (fun M w => RowIn b o vs M w) := ⟨fun hs h =>
  ⟨fun hm => by rcases hs.sub b hm with h1 | h1; exact h.1 h1; have := h.2.2; omega, hs.chg.row h.2.1 h.1, Nat.lt_of_lt_of_le h.2.2 hs.chg.size⟩⟩

def ParkedL (W : World) (Q : List Own) (M : List Nat) (w : World) : Prop := (∀ o ∈ Q, o.at w) ∧ (dom Q).Nodup ∧ ∀ b ∈ dom Q, b ∉ M ∧ W.heap.size ≤ b

instance instStableParkedL (W : World) (Q : List Own) : Stable (fun M w => ParkedL W Q M w) := ⟨fun hs h => by
  have hlt : ∀ b ∈ dom Q, b < _ := fun b hb => by
    obtain ⟨o, ho, hb⟩ := List.mem_flatMap.1 hb
    exact Own.at_lt (h.1 o ho) b hb
  exact ⟨fun o ho => Own.at_keep (h.1 o ho) fun b hb => hs.chg.block b (hlt b (mem_dom ho hb)) (h.2.2 b (mem_dom ho hb)).1, h.2.1, fun b hb => ⟨fun hm => by
    rcases hs.sub b hm with h1 | h1
    · exact (h.2.2 b hb).1 h1
    · have := hlt b hb; omega, (h.2.2 b hb).2⟩⟩⟩

def Aside (W : World) (Q : List Own) (Φ : PW) : PW := fun M w => Φ (dom Q ++ M) w ∧ ParkedL W Q M w
instance instStableAside (W : World) (Q : List Own) (Φ : PW) [Stable Φ] : Stable (Aside W Q Φ) :=
  have h1 : Stable (fun M w => Φ (dom Q ++ M) w) := instStableMore (dom Q) Φ
  instStableAnd (fun M w => Φ (dom Q ++ M) w) (fun M w => ParkedL W Q M w)

theorem Ctx.aside {Q : List Own} (c : Ctx W w (Q ++ S) Φ) : Ctx W w S (Aside W Q Φ) := by
  have hd := dom_app Q S
  have hn := c.nodup
  rw [hd, List.nodup_append] at hn
  refine ⟨c.chg, fun x hx => c.own x (List.mem_append_right _ hx), fun b hb => c.young b (by rw [hd]; exact List.mem_append_right _ hb), hn.2.1, ?_, fun o ho => c.own o (List.mem_append_left _ ho), hn.1, fun b hb => ⟨fun hm => hn.2.2 b hb b hm rfl, c.young b (by rw [hd]; exact List.mem_append_left _ hb)⟩⟩
  have := c.phi
  rw [hd] at this
  exact this

theorem Ctx.unaside {Q : List Own} (c : Ctx W w S (Aside W Q Φ)) : Ctx W w (Q ++ S) Φ := by
  obtain ⟨h1, h2, h3, h4⟩ := c.phi
  have hd := dom_app Q S
  refine ⟨c.chg, fun x hx => ?_, fun b hb => ?_, ?_, by rw [hd]; exact h1⟩
  · rcases List.mem_append.1 hx with hx | hx
    · exact h2 x hx
    · exact c.own x hx
  · rw [hd] at hb
    rcases List.mem_append.1 hb with hb | hb
    · exact (h4 b hb).2
    · exact c.young b hb
  · rw [hd, List.nodup_append]
    exact ⟨h3, c.nodup, fun a ha b hb e => by subst e; exact (h4 a ha).1 hb⟩

theorem Aside.parked {Q : List Own} {M : List Nat} (h : Aside W Q Φ M w) {o : Own} (ho : o ∈ Q) : Parked W o M w := ⟨h.2.1 o ho, fun b hb => h.2.2.2 b (mem_dom ho hb)⟩
theorem Aside.less [Stable Φ] {Q : List Own} {M : List Nat} (h : Aside W Q Φ M w) : Φ M w := Stable.less h.1

theorem Aside.imp {Q : List Own} {Ψ : PW} {M : List Nat} (h : Aside W Q Φ M w) (hi : ∀ M w, Φ M w → Ψ M w) : Aside W Q Ψ M w := ⟨hi _ _ h.1, h.2⟩

theorem Ctx.re (c : Ctx W w S Φ) (e : S = S') : Ctx W w S' Φ := e ▸ c
theorem Ctx.dropF [Stable Φ] {Q T G : List Own} (c : Ctx W w (Q ++ T ++ G) Φ) : Ctx W w (T ++ G) Φ := Ctx.right (S := Q) (c.re (List.append_assoc _ _ _))

theorem Ctx.bufGet (c : Ctx W w S Φ) (k : Nat) {p : Option Addr} {n cap : Nat} {cs : List Value} {t : TypeId} {size : Nat} (hk : S[k]? = some (.buf p n cap cs t size)) {b i : Nat} {v : Value} (hp : p = some ⟨b, 0, none⟩) (hv : cs[i]? = some v) : w.cell? ⟨b, i, none⟩ = some v := by
  obtain ⟨b', h1, _, h2⟩ := c.bufCell k hk (by have := (List.getElem?_eq_some_iff.1 hv).1; omega)
  rw [hp] at h1
  cases h1
  exact (h2 _ _ hv).1

theorem addr_sub {α : Type} [Gv α] {M : List Nat} {p : Option Addr} {l : List α} {cap : Nat} (h : Sl M w p l) (k : Nat) (hc : l.length ≤ cap) : Sl M w (subPtr p (Gv.ty α).size k cap) (l.drop k) := by
  intro j hj
  rw [List.length_drop] at hj
  obtain ⟨b, o, cs, rfl, h2, h3, h4⟩ := h (k + j) (by omega)
  refine ⟨b, o + k * (Gv.ty α).size, cs, ?_, h2, ?_, ?_⟩
  · unfold subPtr
    rw [if_neg (by omega)]
    simp [Addr.add]
  · rw [show o + k * (Gv.ty α).size + j * (Gv.ty α).size = o + (k + j) * (Gv.ty α).size by rw [Nat.add_mul]; omega]
    exact h3
  · rw [List.getElem_drop]
    exact h4

end

end Go.Vc
end

section
set_option linter.unusedVariables false
set_option linter.unusedSimpArgs false
namespace Go.Vc
open Go.ChangeShapes Go.WideShapes Go.RowKit

section
variable {H : Type} {enc : TypeId × Value → H} {P : Program} {W : World}

theorem open_gv {α : Type} [Gv α] (d : Nat) {t : TypeId} {v : Value} {x : DataW H} {ps : List MemPlace} (hty : Ty.is P d (Gv.ty α) t = true) (h : DataW.Trod enc P W 0 (fun _ => true) true t v x ps) : ∃ y : α, Gv.rep [] W v.cells.toList y := by
  obtain ⟨fuel, h⟩ := h
  exact Gv.opens.ap hty h

theorem open_sl {α : Type} [Gv α] (d : Nat) {t e : TypeId} {v : Value} {r : Reach} {base : Nat} {x : DataW H} {ps : List MemPlace} (ht : P.underlying t = some (.slice e)) (hv : Value.okWide P W r base t v) (hty : Ty.is P d (Gv.ty (List α)) t = true)
    (h : DataW.Trod enc P W 0 (fun _ => true) true t v x ps) : ∃ (p : Option Addr) (cap : Nat) (l : List α), v = .slice p l.length cap ∧ l.length ≤ cap ∧ cap ≤ maxLen ∧ Sl [] W p l := by
  obtain ⟨a, len, cap, rfl⟩ := okWide_slice ht hv
  obtain ⟨l, hl⟩ := open_gv (α := List α) d hty h
  obtain ⟨p, c, e, h1, h2, h3⟩ := rep_list.1 hl
  simp only [Value.cells, List.cons.injEq, Value.slice.injEq, and_true] at e
  obtain ⟨rfl, rfl, rfl⟩ := e
  exact ⟨a, cap, l, rfl, h1, h2, h3⟩

theorem GivesIn.law {Φ : PW} {f : FuncId} {args : Array Value} (h : GivesIn Φ P f args (.bool true)) (h0 : Φ [] W) : Calls P f args W fun e W' => ∃ u, e = .returned u ∧ (u = .bool true ∧ Chg [] W W') :=
  (h.go W W [] (Ctx.start W h0)).mono fun e w' ⟨h1, h2⟩ => ⟨_, h1, rfl, h2.chg⟩

end

end Go.Vc
end

section
set_option linter.unusedVariables false
set_option linter.unusedSimpArgs false
namespace Go.Vc
open Go.RowKit Go.Shelf

section
variable {P : Program} {W w w' : World} {S R F : List Own} {Φ Ψ : PW}

theorem Ctx.lose [Stable Φ] (c : Ctx W w (R ++ S) Φ) (h : Chg (dom R) w w') : Ctx W w' S Φ := by
  have hn := c.nodup
  rw [dom_app, List.nodup_append] at hn
  refine c.go ⟨h.mono fun x hx => by rw [dom_app]; exact List.mem_append_left _ hx, fun b hb => .inl (by rw [dom_app]; exact List.mem_append_right _ hb)⟩ (fun o ho => ?_) hn.2.1
  exact Own.at_keep (c.own o (List.mem_append_right _ ho)) fun b hb => h.block b (c.lt (mem_dom (List.mem_append_right _ ho) hb)) fun hm => hn.2.2 b hm b (mem_dom ho hb) rfl

theorem Ctx.appStr [Stable Φ] {p : Option Addr} {n cap : Nat} {cs : List Value} {e : TypeId} (c : Ctx W w (.buf p n cap cs e 1 :: S) Φ) {t u ty : TypeId} {kb : Array Bool} {i : TypeInfo}
    (ht : P.underlying t = some (.slice e)) (hu : P.underlying u = some .string) (hi : P.info? e = some i) (hz : i.zero = some (.int .u8 0)) (hsize : i.size = 1) (hby : i.bytes = 1) (s : ByteArray)
    (hb : n + s.size ≤ 140737488355328) (h63 : n + s.size ≤ maxLen) :
    ∃ p' cap' w', Sem.run P (builtin Builtin.append #[t, u] ty kb #[.slice p n cap, .string s]) w = .ok (.value (.slice p' (n + s.size) cap')) w' ∧ Ctx W w' (.buf p' (n + s.size) cap' (cs ++ Lib.strCells s) e 1 :: S) Φ := by
  have hown := c.own _ (List.mem_cons_self)
  obtain ⟨hcl, hown⟩ := hown
  have hxl : cs.length = n := by simpa using hcl
  have hlen : (cs ++ Lib.strCells s).length = (n + s.size) * 1 := by rw [List.length_append, hxl, Lib.strCells_length, Nat.mul_one]
  have grown : ∀ (old : Nat), old < n + s.size →
      Ctx W (w.drew.alloc (.cells (cs.toArray ++ (Lib.strCells s).toArray ++ Builtin.zeroCells (Value.int .u8 0).cells (grownCap w (n + s.size) old e - (n + s.size))) e))
        (.buf (some ⟨w.heap.size, 0, none⟩) (n + s.size) (grownCap w (n + s.size) old e) (cs ++ Lib.strCells s) e 1 :: S) Φ := by
    intro old ho
    have hge := grownCap_ge w (n + s.size) old e
    have hcm : grownCap w (n + s.size) old e ≤ maxLen := grownCap_le_maxLen w (n + s.size) old e h63
    have h := c.upd (k := 0) (o' := .buf (some ⟨w.heap.size, 0, none⟩) (n + s.size) (grownCap w (n + s.size) old e) (cs ++ Lib.strCells s) e 1) rfl (((Chg.refl _ _).drewN 1).alloc (.cells (cs.toArray ++ (Lib.strCells s).toArray ++ Builtin.zeroCells (Value.int .u8 0).cells (grownCap w (n + s.size) old e - (n + s.size))) e)) (by simp [Own.dom]) (by simp [Own.dom])
      ⟨hlen, .inr ⟨w.heap.size, _, _, rfl, Nat.zero_le _, hp_alloc_new w.drew _, hge, hcm, ?_, ?_⟩⟩
    · exact h
    · have hz1 : (Value.int IntKind.u8 0).cells.size = 1 := rfl
      simp only [Array.size_append, List.size_toArray, size_zeroCells, hz1, hxl, Lib.strCells_length]
      omega
    · simp only [Array.toList_append, List.append_assoc]
      rw [← List.append_assoc, ← hlen]
      exact List.take_left
  rcases hown with ⟨e1, rfl⟩ | ⟨g, cap', cur, e1, _, hg, hnc, hcm, hcs, htake⟩
  · cases e1
    have hx : cs = [] := List.eq_nil_of_length_eq_zero hxl
    subst hx
    by_cases hm : s.size = 0
    · have hn : Lib.strCells s = [] := List.eq_nil_of_length_eq_zero (by rw [Lib.strCells_length]; exact hm)
      refine ⟨none, 0, w, run_app ?_, by rw [hm, hn]; exact c⟩
      have hf := Lib.run_firstCells_string (P := P) w 1 s
      rw [hm] at hf
      simp [Builtin.append_, run_underlying ht, run_underlying hu, sizeOf, typeInfo, hi, hsize, Builtin.lenOf, hm, hf]
    · have hr := run_append_nil_string (P := P) w t u ty e i (.int .u8 0) ht hu hi hz s (by omega) (by omega) (by rw [hby]; omega)
      have hgr := grown 0 (by omega)
      simp only [Nat.zero_add, List.nil_append, Array.empty_append] at hgr ⊢
      have e1 : (s.data.map fun b => Value.int .u8 b.toNat) = (Lib.strCells s).toArray := by
        apply Array.ext'
        simp [Lib.strCells]
      rw [e1] at hr
      exact ⟨_, _, _, run_app hr, hgr⟩
  · cases e1
    have hcs' : cur.size = cap := by simpa using hcs
    have ht' : cur.toList.take n = cs := by simpa using htake
    by_cases hroom : n + s.size ≤ cap
    · have hr := Lib.run_append_room_string (P := P) w t u ty e i ht hu hi hsize g n cap cur hg s hroom (by omega)
      refine ⟨_, _, _, run_app hr, ?_⟩
      have h := c.upd (k := 0) (w' := w.setRow g (cur.toList.take n ++ Lib.strCells s ++ cur.toList.drop (n + s.size)).toArray) (o' := .buf (some ⟨g, 0, none⟩) (n + s.size) cap (cs ++ Lib.strCells s) e 1) rfl ⟨rfl, rfl, rfl, by simp, fun b _ hb => setRow_other w g b _ (by simpa [Own.dom] using hb)⟩ (by simp [Own.dom]) (by simp [Own.dom])
        ⟨hlen, .inr ⟨g, cap, _, rfl, Nat.zero_le _, setRow_heap w g cur _ e _ hg, hroom, hcm, ?_, ?_⟩⟩
      · exact h
      · simp only [List.size_toArray, List.length_append, List.length_take, List.length_drop, Array.length_toList, Lib.strCells_length]
        omega
      · rw [ht', ← hlen]
        exact List.take_left
    · have holds : ∀ j u, cs[j]? = some u → w.cell? ((⟨g, 0, none⟩ : Addr).add j) = some u := by
        intro j u hj
        have hlt : j < cs.length := (List.getElem?_eq_some_iff.1 hj).1
        have h2 : cur[j]? = some u := by
          rw [← ht', List.getElem?_take_of_lt (by omega)] at hj
          simpa using hj
        rw [addr_add, Nat.zero_add]
        simp [World.cell?, hg, h2]
      have hr := Lib.run_append_grow_string (P := P) w t u ty e i (.int .u8 0) ht hu hi hz ⟨g, 0, none⟩ n cap cs (by rw [hsize]; simpa using hxl) holds s (by omega) (by omega) (by rw [hby]; exact growslice_fits (by omega) (by omega))
      exact ⟨_, _, _, run_app hr, grown cap (by omega)⟩

def Bd (T e : TypeId) (b : Nat) (l : List UInt8) (R : List Own) : Prop :=
  ∃ (pa : Value) (p : Option Addr) (cap : Nat), (pa = .pointer none ∨ pa = .pointer (some ⟨b, 0, none⟩)) ∧ R = [.blk b [pa, .slice p l.length cap] T, .buf p l.length cap (Lib.byteCells l) e 1]

theorem Bd.fresh [Stable Φ] {T e : TypeId} {b : Nat} (c : Ctx W w (.blk b [.pointer none, .slice none 0 0] T :: S) Φ) : Ctx W w ([.blk b [.pointer none, .slice none 0 0] T, .buf none 0 0 [] e 1] ++ S) Φ :=
  ((c.buf0 e 1).perm (List.Perm.swap _ _ _))
theorem Bd.nil {T e : TypeId} {b : Nat} : Bd T e b [] [.blk b [.pointer none, .slice none 0 0] T, .buf none 0 0 [] e 1] := ⟨.pointer none, none, 0, .inl rfl, rfl⟩

end

section
open Go.Proofs
variable {P : Program} {ρ : Ren}

theorem chg_freeze {a w : World} {D : List Nat} (h : Chg D a w) {p : Addr} (hp : p.block ∈ D) (n : Nat) : Chg D a (w.freeze p n) := by
  refine h.trans (T := D) ?_ (fun x hx => .inl hx)
  unfold World.freeze
  split
  · exact Chg.refl _ _
  · refine ⟨rfl, rfl, rfl, by simp, fun k hk hn => ?_⟩
    simp only [Array.getElem?_modify]
    rw [if_neg (fun e => hn (by rw [← e]; exact hp))]

set_option maxHeartbeats 1000000 in
set_option maxRecDepth 100000 in
theorem builder_String_some (L : Lays.n169 P ρ) (X : Builder.Extra P ρ) (b g cap : Nat) (pa : Value) (l : List UInt8) (w : World) (h0 : l ≠ []) (hbk : w.heap[b]? = some (.cells #[pa, .slice (some ⟨g, 0, none⟩) l.length cap] (ρ.t 72) (0, 0)))
    (hown : w.ownsRow 0 (ρ.t 5) 1 (.slice (some ⟨g, 0, none⟩) l.length cap) l.length (Lib.byteCells l)) :
    Calls P (ρ.f 169) #[.pointer (some ⟨b, 0, none⟩)] w fun e w' => e = .returned (.string ⟨l.toArray⟩) ∧ Chg [g] w w' := by
  have hl0 : l.length ≠ 0 := by simpa using h0
  obtain ⟨cur, hg, hnc, hcm, hcs, htake⟩ : ∃ cur, w.heap[g]? = some (.cells cur (ρ.t 5) (0, 0)) ∧ l.length ≤ cap ∧ cap ≤ maxLen ∧ cur.size = cap * 1 ∧ cur.toList.take (l.length * 1) = Lib.byteCells l := by
    rcases hown.2 with ⟨hv, _⟩ | ⟨g', cap', cur, hv, _, r⟩
    · cases hv
    · cases hv; exact ⟨cur, r⟩
  have c1 : w.drew.cell? ⟨b, 1, none⟩ = some (.slice (some ⟨g, 0, none⟩) l.length cap) := by
    have : w.drew.heap[b]? = some (.cells #[pa, .slice (some ⟨g, 0, none⟩) l.length cap] (ρ.t 72) (0, 0)) := hbk
    rw [Lib.cell_of_heap this]; rfl
  have hSD : (Builtin.unsafeSliceData_ #[(ρ.t 37)] (ρ.t 127) #[.slice (some ⟨g, 0, none⟩) l.length cap]).run P w.drew = .ok (.pointer (some ⟨g, 0, none⟩)) w.drew :=
    Lib.run_unsafeSliceData_row _ _ _ _ _ _ (by omega)
  have hUS : (Builtin.unsafeString_ #[(ρ.t 127), (ρ.t 3)] (ρ.t 9) #[.pointer (some ⟨g, 0, none⟩), .int .i64 l.length]).run P w.drew = .ok (.string ⟨l.toArray⟩) (w.drew.freeze ⟨g, 0, none⟩ l.length) := by
    refine Lib.run_unsafeString_row w.drew (ρ.t 127) (ρ.t 3) (ρ.t 9) (ρ.t 5) L.t127 X.cellsByte g cur.size (by have hg' : w.drew.heap[g]? = some (.cells cur (ρ.t 5) (0, 0)) := hg; simp [World.shape?, hg']) l h0 (by omega) (by unfold maxLen at hcm; omega) ?_
    intro j x hx
    have := hown.cells (g := g) rfl j (.int .u8 x.toNat) (by simp [Lib.byteCells, hx])
    exact this
  have mixed := L.mixed
  have t72 := L.t72; have a72 := L.a72; have z72 := L.z72; have v72 := L.v72; have u72 := run_underlying L.t72
  have t70 := L.t70; have a70 := L.a70; have z70 := L.z70; have v70 := L.v70; have u70 := run_underlying L.t70
  have t37 := L.t37; have a37 := L.a37; have z37 := L.z37; have v37 := L.v37; have u37 := run_underlying L.t37
  have t127 := L.t127; have a127 := L.a127; have z127 := L.z127; have v127 := L.v127; have u127 := run_underlying L.t127
  have t3 := L.t3; have a3 := L.a3; have z3 := L.z3; have v3 := L.v3; have u3 := run_underlying L.t3
  have t9 := L.t9; have a9 := L.a9; have z9 := L.z9; have v9 := L.v9; have u9 := run_underlying L.t9
  have t5 := X.t5; have a5 := X.a5; have z5 := X.z5; have v5 := X.v5; have u5 := run_underlying X.t5
  go_enter L.f169, Body.n169_ntmps ρ
  go_wp2
  go_region_o
  all_goals (go_wp2; go_ret; exact ⟨rfl, chg_freeze ((Chg.refl _ _).drewN 1) (p := ⟨g, 0, none⟩) (by simp) _⟩)

set_option maxHeartbeats 2000000 in
set_option maxRecDepth 100000 in
theorem builder_String_nil (L : Lays.n169 P ρ) (X : Builder.Extra P ρ) (b : Nat) (p : Value) (w : World) (hbk : w.heap[b]? = some (.cells #[p, .slice none 0 0] (ρ.t 72) (0, 0))) :
    Calls P (ρ.f 169) #[.pointer (some ⟨b, 0, none⟩)] w fun e w' => e = .returned (.string ⟨#[]⟩) ∧ Chg [] w w' := by
  have hUS := Any.unsafeString_none L X
  have c1 : w.drew.cell? ⟨b, 1, none⟩ = some (.slice none 0 0) := by
    have : w.drew.heap[b]? = some (.cells #[p, .slice none 0 0] (ρ.t 72) (0, 0)) := hbk
    rw [Lib.cell_of_heap this]; rfl
  have hSD : (Builtin.unsafeSliceData_ #[(ρ.t 37)] (ρ.t 127) #[.slice none 0 0]).run P w.drew = .ok (.pointer none) w.drew := rfl
  have mixed := L.mixed
  have t72 := L.t72; have a72 := L.a72; have z72 := L.z72; have v72 := L.v72; have u72 := run_underlying L.t72
  have t70 := L.t70; have a70 := L.a70; have z70 := L.z70; have v70 := L.v70; have u70 := run_underlying L.t70
  have t37 := L.t37; have a37 := L.a37; have z37 := L.z37; have v37 := L.v37; have u37 := run_underlying L.t37
  have t127 := L.t127; have a127 := L.a127; have z127 := L.z127; have v127 := L.v127; have u127 := run_underlying L.t127
  have t3 := L.t3; have a3 := L.a3; have z3 := L.z3; have v3 := L.v3; have u3 := run_underlying L.t3
  have t9 := L.t9; have a9 := L.a9; have z9 := L.z9; have v9 := L.v9; have u9 := run_underlying L.t9
  have t5 := X.t5; have a5 := X.a5; have z5 := X.z5; have v5 := X.v5; have u5 := run_underlying X.t5
  go_enter L.f169, Body.n169_ntmps ρ
  go_wp2
  go_region_o
  all_goals (go_wp2; go_ret; exact ⟨rfl, (Chg.refl _ _).drewN 1⟩)

set_option maxHeartbeats 2000000 in
set_option maxRecDepth 100000 in
theorem builder_String_noroom (L : Lays.n169 P ρ) (X : Builder.Extra P ρ) (b g : Nat) (p : Value) (cur : Array Value) (w : World) (hbk : w.heap[b]? = some (.cells #[p, .slice (some ⟨g, 0, none⟩) 0 0] (ρ.t 72) (0, 0))) (hg : w.heap[g]? = some (.cells cur (ρ.t 5) (0, 0))) :
    Calls P (ρ.f 169) #[.pointer (some ⟨b, 0, none⟩)] w fun e w' => e = .returned (.string ⟨#[]⟩) ∧ Chg [] w w' := by
  have hUS := Any.unsafeString_none L X
  have hlt : b < w.heap.size := by
    rcases Nat.lt_or_ge b w.heap.size with h' | h'
    · exact h'
    · simp [Array.getElem?_eq_none h'] at hbk
  have c1 : w.drew.cell? ⟨b, 1, none⟩ = some (.slice (some ⟨g, 0, none⟩) 0 0) := by
    have : w.drew.heap[b]? = some (.cells #[p, .slice (some ⟨g, 0, none⟩) 0 0] (ρ.t 72) (0, 0)) := hbk
    rw [Lib.cell_of_heap this]; rfl
  have hSD : (Builtin.unsafeSliceData_ #[(ρ.t 37)] (ρ.t 127) #[.slice (some ⟨g, 0, none⟩) 0 0]).run P w.drew = .ok (.pointer (some ⟨w.drew.heap.size, 0, none⟩)) (w.drew.alloc (.view ⟨g, 0, none⟩ (ρ.t 5))) :=
    Lib.run_unsafeSliceData_zero w.drew _ _ (ρ.t 5) L.t127 ⟨g, 0, none⟩ 0 ((ρ.t 5), cur.size) (by have hg' : w.drew.heap[g]? = some (.cells cur (ρ.t 5) (0, 0)) := hg; simp [World.shape?, hg'])
  have c2 : (w.drew.alloc (.view ⟨g, 0, none⟩ (ρ.t 5))).cell? ⟨b, 1, none⟩ = some (.slice (some ⟨g, 0, none⟩) 0 0) := by
    have : (w.drew.alloc (.view ⟨g, 0, none⟩ (ρ.t 5))).heap[b]? = _ := (Lib.alloc_old w.drew _ b hlt).trans hbk
    rw [Lib.cell_of_heap this]; rfl
  have c3 : (w.alloc (.view ⟨g, 0, none⟩ (ρ.t 5))).drew.cell? ⟨b, 1, none⟩ = some (.slice (some ⟨g, 0, none⟩) 0 0) := c2
  have c0 : w.cell? ⟨b, 1, none⟩ = some (.slice (some ⟨g, 0, none⟩) 0 0) := c1
  have mixed := L.mixed
  have t72 := L.t72; have a72 := L.a72; have z72 := L.z72; have v72 := L.v72; have u72 := run_underlying L.t72
  have t70 := L.t70; have a70 := L.a70; have z70 := L.z70; have v70 := L.v70; have u70 := run_underlying L.t70
  have t37 := L.t37; have a37 := L.a37; have z37 := L.z37; have v37 := L.v37; have u37 := run_underlying L.t37
  have t127 := L.t127; have a127 := L.a127; have z127 := L.z127; have v127 := L.v127; have u127 := run_underlying L.t127
  have t3 := L.t3; have a3 := L.a3; have z3 := L.z3; have v3 := L.v3; have u3 := run_underlying L.t3
  have t9 := L.t9; have a9 := L.a9; have z9 := L.z9; have v9 := L.v9; have u9 := run_underlying L.t9
  have t5 := X.t5; have a5 := X.a5; have z5 := X.z5; have v5 := X.v5; have u5 := run_underlying X.t5
  go_enter L.f169, Body.n169_ntmps ρ
  go_wp2
  go_region_o
  all_goals (go_wp2; go_ret; exact ⟨rfl, ((Chg.refl _ _).drewN 1).alloc _⟩)

set_option maxHeartbeats 2000000 in
set_option maxRecDepth 100000 in
theorem builder_String_room (L : Lays.n169 P ρ) (X : Builder.Extra P ρ) (b g cap : Nat) (p : Value) (w : World) (hc0 : cap ≠ 0) (hbk : w.heap[b]? = some (.cells #[p, .slice (some ⟨g, 0, none⟩) 0 cap] (ρ.t 72) (0, 0))) :
    Calls P (ρ.f 169) #[.pointer (some ⟨b, 0, none⟩)] w fun e w' => e = .returned (.string ⟨#[]⟩) ∧ Chg [] w w' := by
  have hUS := Any.unsafeString_none L X
  have c1 : w.drew.cell? ⟨b, 1, none⟩ = some (.slice (some ⟨g, 0, none⟩) 0 cap) := by
    have : w.drew.heap[b]? = some (.cells #[p, .slice (some ⟨g, 0, none⟩) 0 cap] (ρ.t 72) (0, 0)) := hbk
    rw [Lib.cell_of_heap this]; rfl
  have hSD : (Builtin.unsafeSliceData_ #[(ρ.t 37)] (ρ.t 127) #[.slice (some ⟨g, 0, none⟩) 0 cap]).run P w.drew = .ok (.pointer (some ⟨g, 0, none⟩)) w.drew :=
    Lib.run_unsafeSliceData_row _ _ _ _ _ _ hc0
  clear hc0
  have mixed := L.mixed
  have t72 := L.t72; have a72 := L.a72; have z72 := L.z72; have v72 := L.v72; have u72 := run_underlying L.t72
  have t70 := L.t70; have a70 := L.a70; have z70 := L.z70; have v70 := L.v70; have u70 := run_underlying L.t70
  have t37 := L.t37; have a37 := L.a37; have z37 := L.z37; have v37 := L.v37; have u37 := run_underlying L.t37
  have t127 := L.t127; have a127 := L.a127; have z127 := L.z127; have v127 := L.v127; have u127 := run_underlying L.t127
  have t3 := L.t3; have a3 := L.a3; have z3 := L.z3; have v3 := L.v3; have u3 := run_underlying L.t3
  have t9 := L.t9; have a9 := L.a9; have z9 := L.z9; have v9 := L.v9; have u9 := run_underlying L.t9
  have t5 := X.t5; have a5 := X.a5; have z5 := X.z5; have v5 := X.v5; have u5 := run_underlying X.t5
  go_enter L.f169, Body.n169_ntmps ρ
  go_wp2
  go_region_o
  all_goals (go_wp2; go_ret; exact ⟨rfl, (Chg.refl _ _).drewN 1⟩)

theorem Bd.string {W w : World} {S R : List Own} {Φ : PW} [Stable Φ] {b : Nat} {l : List UInt8} (L : Lays.n169 P ρ) (X : Builder.Extra P ρ) (h : Bd (ρ.t 72) (ρ.t 5) b l R) (c : Ctx W w (R ++ S) Φ) {K : Ending → World → Prop}
    (hk : ∀ w', Ctx W w' S Φ → K (.returned (.string ⟨l.toArray⟩)) w') : Calls P (ρ.f 169) #[.pointer (some ⟨b, 0, none⟩)] w K := by
  obtain ⟨pa, p, cap, hpa, rfl⟩ := h
  have hbk : w.heap[b]? = some (.cells #[pa, .slice p l.length cap] (ρ.t 72) (0, 0)) := c.blk 0 rfl
  have hown : w.ownsRow 0 (ρ.t 5) 1 (.slice p l.length cap) l.length (Lib.byteCells l) := c.own _ (List.mem_cons_of_mem _ List.mem_cons_self)
  by_cases h0 : l = []
  · subst h0
    rcases hown.2 with ⟨e, _⟩ | ⟨g, cap', cur, e, _, hg, _⟩
    · cases e
      exact (builder_String_nil L X b pa w hbk).mono fun e w' ⟨he, hc⟩ => by subst he; exact hk w' (c.lose (hc.mono (by simp)))
    · cases e
      by_cases hc0 : cap = 0
      · subst hc0
        exact (builder_String_noroom L X b g pa cur w hbk hg).mono fun e w' ⟨he, hc⟩ => by subst he; exact hk w' (c.lose (hc.mono (by simp)))
      · exact (builder_String_room L X b g cap pa w hc0 hbk).mono fun e w' ⟨he, hc⟩ => by subst he; exact hk w' (c.lose (hc.mono (by simp)))
  · have hl0 : l.length ≠ 0 := by simpa using h0
    obtain ⟨g, rfl⟩ : ∃ g, p = some ⟨g, 0, none⟩ := by
      rcases hown.2 with ⟨_, hz⟩ | ⟨g, cap', cur, hv, _⟩
      · exact absurd hz hl0
      · cases hv; exact ⟨g, rfl⟩
    exact (builder_String_some L X b g cap pa l w h0 hbk hown).mono fun e w' ⟨he, hc⟩ => by subst he; exact hk w' (c.lose (hc.mono (by simp [dom, Own.dom])))

end

def Tab (P : Program) (name : String) (k : IntKind) (zs : List Int) : PW := fun M w => Lib.TabIs P w name k zs ∧ ∀ g, P.globalNamed name = some g → g ∉ M

instance instStableTab (P : Program) (name : String) (k : IntKind) (zs : List Int) : Stable (Tab P name k zs) := ⟨fun {M M' w w'} hs h => by
  obtain ⟨h1, h2⟩ := h
  unfold Lib.TabIs World.var? at h1
  cases hg : P.globalNamed name with
  | none => simp [hg] at h1
  | some g =>
    simp only [hg, Option.bind_some] at h1
    have hlt : g < w.heap.size := by
      rcases Nat.lt_or_ge g w.heap.size with h' | h'
      · exact h'
      · rw [Array.getElem?_eq_none h'] at h1; simp at h1
    refine ⟨?_, fun g' hg' hm => ?_⟩
    · unfold Lib.TabIs World.var?
      simp only [hg, Option.bind_some]
      rw [hs.chg.block g hlt (h2 g hg)]
      exact h1
    · rw [hg] at hg'
      cases hg'
      rcases hs.sub g hm with h | h
      · exact h2 g hg h
      · omega⟩

theorem Tab.start {P : Program} {name : String} {k : IntKind} {zs : List Int} {w : World} (h : Lib.TabIs P w name k zs) : Tab P name k zs [] w := ⟨h, fun _ _ => by simp⟩

theorem chg_grow {w : World} {k : Nat} {os : Array Obj} : Chg [] w (Sort.grow (w.drewN k) os) :=
  ⟨rfl, rfl, rfl, by show w.heap.size ≤ (w.heap ++ os).size; rw [Array.size_append]; omega, fun j hj _ => by
    show (w.heap ++ os)[j]? = w.heap[j]?
    rw [Array.getElem?_append_left hj]⟩

theorem itoa_in {P : Program} {f : FuncId} {Φ : PW} [Stable Φ] {name : String} (hI : ∀ (n : Int), -9223372036854775808 ≤ n → n ≤ 9223372036854775807 → ∀ w, Lib.TabIs P w name .u64 Lib.pow10Tab →
      Calls P f #[.int .i64 n] w fun e w' => e = .returned (.string ⟨(Lib.itoa n).toArray⟩) ∧ ∃ k os, w' = Sort.grow (w.drewN k) os)
    (hΦ : ∀ M w, Φ M w → Tab P name .u64 Lib.pow10Tab M w) (n : Int) (h : I64 n) : GivesIn Φ P f #[.int .i64 n] (.string ⟨(Lib.itoa n).toArray⟩) :=
  ⟨fun W w S c => (hI n (by unfold I64 at h; omega) (by unfold I64 at h; omega) w (hΦ _ _ c.phi).1).mono fun e w' ⟨he, k, os, hw⟩ => ⟨he, by rw [hw]; exact c.call chg_grow⟩⟩

open Go.ChangeShapes Go.WideShapes Go.ChangeAt

theorem lawTrueLaid {H : Type} {enc : TypeId × Value → H} {C : Checked} {os : Os} {f : FuncId} {fn : Func} {s : ChangeSpec} {conds : List PathCond} {apart fresh handsOn : Bool} {tb : TypeId} {ld : List (String × DataW Unit)}
    (own : ownKnob C.prog.godebug = none) (started : os.Started) (noInit : C.prog.inits.idxOf? f = none) (hfn : C.prog.funcs[f]? = some fn)
    (laid : laidOutB C.prog = true) (hvars : s.vars = []) (hspec : ∀ ds : List (DataW H), ds.length = fn.params.toList.length → (s.fn H (ds ++ [])).results = [.lit (.bool true)] ∧ (s.fn H (ds ++ [])).args = ds ∧ (s.fn H (ds ++ [])).vars = [])
    (hres : fn.resultTypes = #[tb]) (htb : C.prog.underlying tb = some .bool)
    (types : (fn.params.toList.all fun t => C.prog.readableRec t && decide (t < C.prog.types.size)) = true)
    (witness : ∃ (w : World) (tape : Tape) (i : Input), w.os = os ∧ (w.forCall tape i).Shaped C.prog ∧ i.vars = [] ∧ Input.okWide C.prog (w.forCall tape i) .any w.heap.size f i ∧
      ((s.pre enc C.prog fn conds apart (w.forCall tape i).memory i.args ∧ laidMetH C.prog ld (w.forCall tape i).memory) ∧ sizedMet enc C.prog fn (OpenSpec.ofChange s) apart (w.forCall tape i).memory i.args) ∧ Assume.holds {} C.prog (lone (Frame.enter C.prog f i.args .normal) [] (w.forCall tape i)))
    (contract : ∀ (W : World) (base : Nat) (args : Array Value) (ds : List (DataW H)) (p : List MemPlace),
      (∀ (j : Nat) t v, fn.params[j]? = some t → args[j]? = some v → Value.okWide C.prog W .any base t v) →
      DataW.TrodAll enc C.prog W 0 (fun _ => true) true fn.params.toList args.toList ds p →
      conds.all (PathCond.test C.prog ⟨fn.params.toList, ds, s.plain.varTypes C.prog, []⟩) = true → laidMetH C.prog ld W →
      Calls C.prog f args W fun e W' => ∃ u, e = .returned u ∧ (u = .bool true ∧ Chg [] W W')) :
    ReturnsInHanded {} C os f .any (fun w args => (s.pre enc C.prog fn conds apart w args ∧ laidMetH C.prog ld w) ∧ sizedMet enc C.prog fn (OpenSpec.ofChange s) apart w args) (s.post enc C.prog fn apart fresh handsOn false) := by
  refine returnsInHanded_of_change_and (X := fun w _ => laidMetH C.prog ld w) (fun _ _ _ hh h => h.of_heap hh) own started noInit hfn witness ?_
  intro W base args ds gs before hval hW hcnd _ hL _
  have hW' := hW
  obtain ⟨p, q, hA, hV, rfl, _, _⟩ := hW
  rw [hvars] at hV
  obtain ⟨rfl, rfl⟩ := trodVars_none hV
  simp only [List.append_nil] at hW'
  refine (contract W base args ds p hval hA hcnd hL).mono fun e W' ⟨u, he, hu, hc⟩ => ?_
  subst he; subst hu
  have hb : Below W.heap.size W W' := hc.below (Nat.le_refl _) (by simp)
  obtain ⟨e1, e2, e3⟩ := hspec ds (trodAll_length hA).2
  refine ⟨_, rfl, ds, [], p, [], p, [], hW', ?_, ?_, ?_, hb.frame _, fun h => by cases h⟩
  · rw [e1, hres]
    exact trodAll_mk1 (t := tb) (v := .bool true) ⟨1, by simp [DataW.trod, Value.cells, htb]⟩
  · rw [e2]
    exact trodAll_below laid hb types hA (fun x hx => by simpa using hW'.lt x hx)
  · rw [e3, hvars]
    rfl

end Go.Vc
end

section
set_option linter.unusedVariables false
namespace Go.Proofs
open Go.Shelf

def Tryz.lays169_ren : Go.Shelf.Ren := ⟨fun | 169 => 55 | n => n, fun | 70 => 90 | 9 => 9 | 0 => 0 | 72 => 93 | 37 => 91 | 127 => 113 | 3 => 3 | 5 => 5 | n => n, fun | n => n⟩
theorem Tryz.lays169 : Go.Proofs.Lays.n169 Tryz.prog Tryz.lays169_ren := {
  mixed := by kernel_rfl
  f169 := Tryz.func55.trans (congrArg some (by kernel_rfl))
  t0 := Tryz.underlying0
  a0 := Tryz.isAgg0
  z0 := Tryz.sizeOf0
  v0 := Tryz.zeroValue0
  t3 := Tryz.underlying3
  a3 := Tryz.isAgg3
  z3 := Tryz.sizeOf3
  v3 := Tryz.zeroValue3
  t9 := Tryz.underlying9
  a9 := Tryz.isAgg9
  z9 := Tryz.sizeOf9
  v9 := Tryz.zeroValue9
  t37 := Tryz.underlying91
  a37 := Tryz.isAgg91
  z37 := Tryz.sizeOf91
  v37 := Tryz.zeroValue91
  t70 := Tryz.underlying90
  a70 := Tryz.isAgg90
  z70 := Tryz.sizeOf90
  v70 := Tryz.zeroValue90
  t72 := Tryz.underlying93
  a72 := Tryz.isAgg93
  z72 := Tryz.sizeOf93
  v72 := Tryz.zeroValue93
  t127 := Tryz.underlying113
  a127 := Tryz.isAgg113
  z127 := Tryz.sizeOf113
  v127 := Tryz.zeroValue113 }
theorem Tryz.Builder_Extra_169 : Builder.Extra Tryz.prog Tryz.lays169_ren := {
  sizeBuilder := by kernel_rfl
  liesBuilder := by kernel_rfl
  t5 := Tryz.underlying5
  a5 := Tryz.isAgg5
  z5 := Tryz.sizeOf5
  v5 := Tryz.zeroValue5
  infoByte := by kernel_rfl
  cellsByte := by kernel_rfl
  sizeByte := by kernel_rfl
  neB5 := by decide }
def Tryz.laysM171_ren : Go.Shelf.Ren := ⟨fun | 171 => 83 | 243 => 103 | 246 => 115 | 283 => 128 | 284 => 129 | 285 => 130 | 286 => 131 | 129 => 144 | 317 => 143 | 318 => 145 | 319 => 146 | 320 => 147 | 337 => 153 | 338 => 154 | n => n, fun | 3 => 3 | 9 => 9 | 2 => 2 | 4 => 4 | 171 => 142 | 0 => 0 | 53 => 143 | 37 => 91 | 5 => 5 | 173 => 146 | 212 => 160 | 51 => 161 | 20 => 20 | 213 => 162 | 46 => 163 | 232 => 176 | 233 => 177 | n => n, fun | 17 => 0 | 18 => 4 | 19 => 5 | n => n⟩
theorem Tryz.laysM171 : Go.Proofs.LaysM.n171 Tryz.prog Tryz.laysM171_ren := {
  mixed := by kernel_rfl
  f129 := Tryz.func144.trans (congrArg some (by kernel_rfl))
  f171 := Tryz.func83.trans (congrArg some (by kernel_rfl))
  f243 := Tryz.func103.trans (congrArg some (by kernel_rfl))
  f246 := Tryz.func115.trans (congrArg some (by kernel_rfl))
  f283 := Tryz.func128.trans (congrArg some (by kernel_rfl))
  f284 := Tryz.func129.trans (congrArg some (by kernel_rfl))
  f285 := Tryz.func130.trans (congrArg some (by kernel_rfl))
  f286 := Tryz.func131.trans (congrArg some (by kernel_rfl))
  f317 := Tryz.func143.trans (congrArg some (by kernel_rfl))
  f318 := Tryz.func145.trans (congrArg some (by kernel_rfl))
  f319 := Tryz.func146.trans (congrArg some (by kernel_rfl))
  f320 := Tryz.func147.trans (congrArg some (by kernel_rfl))
  f337 := Tryz.func153.trans (congrArg some (by kernel_rfl))
  f338 := Tryz.func154.trans (congrArg some (by kernel_rfl))
  t0 := Tryz.underlying0
  a0 := Tryz.isAgg0
  z0 := Tryz.sizeOf0
  v0 := Tryz.zeroValue0
  t2 := Tryz.underlying2
  a2 := Tryz.isAgg2
  z2 := Tryz.sizeOf2
  v2 := Tryz.zeroValue2
  t3 := Tryz.underlying3
  a3 := Tryz.isAgg3
  z3 := Tryz.sizeOf3
  v3 := Tryz.zeroValue3
  t4 := Tryz.underlying4
  a4 := Tryz.isAgg4
  z4 := Tryz.sizeOf4
  v4 := Tryz.zeroValue4
  t5 := Tryz.underlying5
  a5 := Tryz.isAgg5
  z5 := Tryz.sizeOf5
  v5 := Tryz.zeroValue5
  t9 := Tryz.underlying9
  a9 := Tryz.isAgg9
  z9 := Tryz.sizeOf9
  v9 := Tryz.zeroValue9
  t20 := Tryz.underlying20
  a20 := Tryz.isAgg20
  z20 := Tryz.sizeOf20
  v20 := Tryz.zeroValue20
  t37 := Tryz.underlying91
  a37 := Tryz.isAgg91
  z37 := Tryz.sizeOf91
  v37 := Tryz.zeroValue91
  t46 := Tryz.underlying163
  a46 := Tryz.isAgg163
  z46 := Tryz.sizeOf163
  v46 := Tryz.zeroValue163
  t51 := Tryz.underlying161
  a51 := Tryz.isAgg161
  z51 := Tryz.sizeOf161
  v51 := Tryz.zeroValue161
  t53 := Tryz.underlying143
  a53 := Tryz.isAgg143
  z53 := Tryz.sizeOf143
  v53 := Tryz.zeroValue143
  t171 := Tryz.underlying142
  a171 := Tryz.isAgg142
  z171 := Tryz.sizeOf142
  v171 := Tryz.zeroValue142
  t173 := Tryz.underlying146
  a173 := Tryz.isAgg146
  z173 := Tryz.sizeOf146
  v173 := Tryz.zeroValue146
  t212 := Tryz.underlying160
  a212 := Tryz.isAgg160
  z212 := Tryz.sizeOf160
  v212 := Tryz.zeroValue160
  t213 := Tryz.underlying162
  a213 := Tryz.isAgg162
  z213 := Tryz.sizeOf162
  t232 := Tryz.underlying176
  a232 := Tryz.isAgg176
  z232 := Tryz.sizeOf176
  v232 := Tryz.zeroValue176
  t233 := Tryz.underlying177
  a233 := Tryz.isAgg177
  z233 := Tryz.sizeOf177
  v233 := Tryz.zeroValue177
  g17 := by kernel_rfl
  g18 := by kernel_rfl
  g19 := by kernel_rfl
  i0 := by kernel_rfl
  i2 := by kernel_rfl
  i3 := by kernel_rfl
  i4 := by kernel_rfl
  i5 := by kernel_rfl
  i9 := by kernel_rfl
  i20 := by kernel_rfl
  i37 := by kernel_rfl
  i46 := by kernel_rfl
  i51 := by kernel_rfl
  i53 := by kernel_rfl
  i171 := by kernel_rfl
  i173 := by kernel_rfl
  i212 := by kernel_rfl
  i232 := by kernel_rfl
  i233 := by kernel_rfl
  m17 := by kernel_rfl
  m18 := by kernel_rfl
  m19 := by kernel_rfl }
def Tryz.lays171_ren : Go.Shelf.Ren := ⟨fun | 171 => 83 | 243 => 103 | 246 => 115 | 283 => 128 | 284 => 129 | 285 => 130 | 286 => 131 | 129 => 144 | 317 => 143 | 318 => 145 | 319 => 146 | 320 => 147 | 337 => 153 | 338 => 154 | n => n, fun | 3 => 3 | 9 => 9 | 2 => 2 | 4 => 4 | 171 => 142 | 0 => 0 | 53 => 143 | 37 => 91 | 5 => 5 | 173 => 146 | 212 => 160 | 51 => 161 | 20 => 20 | 213 => 162 | 46 => 163 | 232 => 176 | 233 => 177 | n => n, fun | 17 => 0 | 18 => 4 | 19 => 5 | n => n⟩
theorem Tryz.lays171 : Go.Proofs.Lays.n171 Tryz.prog Tryz.lays171_ren := {
  mixed := by kernel_rfl
  f129 := Tryz.func144.trans (congrArg some (by kernel_rfl))
  f171 := Tryz.func83.trans (congrArg some (by kernel_rfl))
  f243 := Tryz.func103.trans (congrArg some (by kernel_rfl))
  f246 := Tryz.func115.trans (congrArg some (by kernel_rfl))
  f283 := Tryz.func128.trans (congrArg some (by kernel_rfl))
  f284 := Tryz.func129.trans (congrArg some (by kernel_rfl))
  f285 := Tryz.func130.trans (congrArg some (by kernel_rfl))
  f286 := Tryz.func131.trans (congrArg some (by kernel_rfl))
  f317 := Tryz.func143.trans (congrArg some (by kernel_rfl))
  f318 := Tryz.func145.trans (congrArg some (by kernel_rfl))
  f319 := Tryz.func146.trans (congrArg some (by kernel_rfl))
  f320 := Tryz.func147.trans (congrArg some (by kernel_rfl))
  f337 := Tryz.func153.trans (congrArg some (by kernel_rfl))
  f338 := Tryz.func154.trans (congrArg some (by kernel_rfl))
  t0 := Tryz.underlying0
  a0 := Tryz.isAgg0
  z0 := Tryz.sizeOf0
  v0 := Tryz.zeroValue0
  t2 := Tryz.underlying2
  a2 := Tryz.isAgg2
  z2 := Tryz.sizeOf2
  v2 := Tryz.zeroValue2
  t3 := Tryz.underlying3
  a3 := Tryz.isAgg3
  z3 := Tryz.sizeOf3
  v3 := Tryz.zeroValue3
  t4 := Tryz.underlying4
  a4 := Tryz.isAgg4
  z4 := Tryz.sizeOf4
  v4 := Tryz.zeroValue4
  t5 := Tryz.underlying5
  a5 := Tryz.isAgg5
  z5 := Tryz.sizeOf5
  v5 := Tryz.zeroValue5
  t9 := Tryz.underlying9
  a9 := Tryz.isAgg9
  z9 := Tryz.sizeOf9
  v9 := Tryz.zeroValue9
  t20 := Tryz.underlying20
  a20 := Tryz.isAgg20
  z20 := Tryz.sizeOf20
  v20 := Tryz.zeroValue20
  t37 := Tryz.underlying91
  a37 := Tryz.isAgg91
  z37 := Tryz.sizeOf91
  v37 := Tryz.zeroValue91
  t46 := Tryz.underlying163
  a46 := Tryz.isAgg163
  z46 := Tryz.sizeOf163
  v46 := Tryz.zeroValue163
  t51 := Tryz.underlying161
  a51 := Tryz.isAgg161
  z51 := Tryz.sizeOf161
  v51 := Tryz.zeroValue161
  t53 := Tryz.underlying143
  a53 := Tryz.isAgg143
  z53 := Tryz.sizeOf143
  v53 := Tryz.zeroValue143
  t171 := Tryz.underlying142
  a171 := Tryz.isAgg142
  z171 := Tryz.sizeOf142
  v171 := Tryz.zeroValue142
  t173 := Tryz.underlying146
  a173 := Tryz.isAgg146
  z173 := Tryz.sizeOf146
  v173 := Tryz.zeroValue146
  t212 := Tryz.underlying160
  a212 := Tryz.isAgg160
  z212 := Tryz.sizeOf160
  v212 := Tryz.zeroValue160
  t213 := Tryz.underlying162
  a213 := Tryz.isAgg162
  z213 := Tryz.sizeOf162
  t232 := Tryz.underlying176
  a232 := Tryz.isAgg176
  z232 := Tryz.sizeOf176
  v232 := Tryz.zeroValue176
  t233 := Tryz.underlying177
  a233 := Tryz.isAgg177
  z233 := Tryz.sizeOf177
  v233 := Tryz.zeroValue177
  g17 := by kernel_rfl
  g18 := by kernel_rfl
  g19 := by kernel_rfl }
end Go.Proofs
end

section
set_option linter.unusedVariables false
set_option linter.unusedSimpArgs false
namespace Go.Proofs.YtbkpfhhhbhaecaaGreatDoor
open Go.Vc


abbrev BdT (b : Nat) (l : List UInt8) (R : List Own) : Prop := Bd 93 5 b l R

theorem bd_info : ∃ j, Tryz.prog.info? 93 = some j ∧ j.size = 2 := by
  have h : (Tryz.prog.info? 93).map (·.size) = some 2 := by kernel_rfl
  exact Option.map_eq_some_iff.1 h

set_option maxHeartbeats 1000000 in
set_option maxRecDepth 100000 in
theorem copyCheck_used (b : Nat) (w : World) (h0 : w.cell? ⟨b, 0, none⟩ = some (.pointer (some ⟨b, 0, none⟩))) :
    Calls Tryz.prog 82 #[.pointer (some ⟨b, 0, none⟩)] w fun e w' => e = .returned (.tuple #[]) ∧ w' = w := by
  obtain ⟨j, hj, _⟩ := bd_info
  go_enter Tryz.func82, Tryz.ntmps82
  go_wp2
  rw [Lib.run_neq_ptr_same w _ Tryz.underlying90 hj]
  go_wp2
  go_end0
  exact ⟨rfl, rfl⟩

set_option maxHeartbeats 1000000 in
set_option maxRecDepth 100000 in
theorem copyCheck_fresh (b : Nat) (w : World) (h0 : w.cell? ⟨b, 0, none⟩ = some (.pointer none)) (hsh : w.shape? b = some (93, 2)) (hfz : w.frozen? ⟨b, 0, none⟩ = false) :
    Calls Tryz.prog 82 #[.pointer (some ⟨b, 0, none⟩)] w fun e w' => e = .returned (.tuple #[]) ∧ w' = w.setCell ⟨b, 0, none⟩ (.pointer (some ⟨b, 0, none⟩)) := by
  obtain ⟨j, hj, hjs⟩ := bd_info
  go_enter Tryz.func82, Tryz.ntmps82
  go_wp2
  rw [Lib.run_to_unsafe w ⟨b, 0, none⟩ Tryz.underlying90 Tryz.underlying124 hj (by rw [hjs]; decide) hsh (Nat.zero_lt_succ 1)]
  simp only [Result.andThen]
  rw [Oper.upon_value]
  go_wp2
  rw [run_callFunc_extern Tryz.func102 (by kernel_rfl) (by kernel_rfl) (by kernel_rfl) (e := Extern.AbiNoEscape.same) (by kernel_rfl)]
  rw [Lib.run_noEscape]
  simp only [Result.andThen]
  rw [Oper.upon_value]
  go_wp2
  rw [Lib.run_from_unsafe w ⟨b, 0, none⟩ Tryz.underlying124 Tryz.underlying90 hj hsh (by kernel_rfl)]
  simp only [Result.andThen]
  rw [Oper.upon_value]
  go_wp2
  go_end0
  exact ⟨rfl, rfl⟩

theorem copyCheck_use {W w : World} {S : List Own} {Φ : PW} [Stable Φ] {b : Nat} {pa v : Value} (hp : pa = .pointer none ∨ pa = .pointer (some ⟨b, 0, none⟩)) (c : Ctx W w (.blk b [pa, v] 93 :: S) Φ) {K : Ending → World → Prop}
    (hk : ∀ w', Ctx W w' (.blk b [.pointer (some ⟨b, 0, none⟩), v] 93 :: S) Φ → K (.returned (.tuple #[])) w') : Calls Tryz.prog F.strings_Builder_copyCheck #[.pointer (some ⟨b, 0, none⟩)] w K := by
  have hb : w.heap[b]? = some (.cells #[pa, v] 93 (0, 0)) := c.blk 0 rfl
  rcases hp with rfl | rfl
  · exact (copyCheck_fresh b w (c.get 0 rfl rfl) (by simp [World.shape?, hb]) (by simp [World.frozen?, hb])).mono fun e w' ⟨he, hw⟩ => by
      subst he
      exact hk w' (c.put 0 hw rfl)
  · exact (copyCheck_used b w (c.get 0 rfl rfl)).mono fun e w' ⟨he, hw⟩ => by
      subst he; subst hw
      exact hk w' c

theorem byte_info : ∃ i, Tryz.prog.info? 5 = some i ∧ i.zero = some (.int .u8 0) ∧ i.size = 1 ∧ i.bytes = 1 := by
  have h : (Tryz.prog.info? 5).map (fun i => (i.zero, i.size, i.bytes)) = some (some (.int .u8 0), 1, 1) := by kernel_rfl
  obtain ⟨i, hi, he⟩ := Option.map_eq_some_iff.1 h
  simp only [Prod.mk.injEq] at he
  exact ⟨i, hi, he⟩

theorem strCells_bytes (s : ByteArray) : Lib.strCells s = Lib.byteCells s.data.toList := rfl

theorem WriteString_use {W w : World} {S R : List Own} {Φ : PW} [Stable Φ] {b : Nat} {l : List UInt8} (s : ByteArray) (h : BdT b l R) (c : Ctx W w (R ++ S) Φ) (hlen : l.length + s.size ≤ 100000000000) {K : Ending → World → Prop}
    (hk : ∀ R' w', BdT b (l ++ s.data.toList) R' → Ctx W w' (R' ++ S) Φ → K (.returned (.tuple #[.int .i64 s.size, .nilIface])) w') : Calls Tryz.prog F.strings_Builder_WriteString #[.pointer (some ⟨b, 0, none⟩), .string s] w K := by
  obtain ⟨pa, p, cap, hpa, rfl⟩ := h
  obtain ⟨i, hi, hz, hsz, hby⟩ := byte_info
  refine (Bstrings_Builder_WriteString_run b 0 s (J := fun u w' => K (.returned u) w') c ?_).mono fun e w' ⟨v, he, hj⟩ => by rw [he]; exact hj
  refine fun w G c => copyCheck_use hpa c fun w c => ⟨rfl, [.blk b [.pointer (some ⟨b, 0, none⟩), .slice p l.length cap] 93, .buf p l.length cap (Lib.byteCells l) 5 1] ++ S, Φ, inferInstance, c, fun w G c => ⟨p, l.length, cap, c.get 0 rfl rfl, fun w G c => ?_⟩⟩
  obtain ⟨p', cap', w', hrun, c'⟩ := Ctx.appStr (P := Tryz.prog) (t := 91) (u := 9) (ty := 91) (kb := #[false, false]) (c.swap) Tryz.underlying91 Tryz.underlying9 hi hz hsz hby s (by omega) (by unfold maxLen; omega)
  refine ⟨p', _, cap', w', hrun, [.blk b [.pointer (some ⟨b, 0, none⟩), .slice p l.length cap] 93, .buf p' (l.length + s.size) cap' (Lib.byteCells l ++ Lib.strCells s) 5 1] ++ S, Φ, inferInstance, c'.swap, fun w G c => ⟨c.can 0 rfl (by simp), fun w' hw' => ?_⟩⟩
  refine ⟨[.blk b [.pointer (some ⟨b, 0, none⟩), .slice p' (l.length + s.size) cap'] 93, .buf p' (l.length + s.size) cap' (Lib.byteCells l ++ Lib.strCells s) 5 1] ++ S, Φ, inferInstance, c.put 0 hw' rfl, fun w G c => hk [.blk b [.pointer (some ⟨b, 0, none⟩), .slice p' (l.length + s.size) cap'] 93, .buf p' (l.length + s.size) cap' (Lib.byteCells l ++ Lib.strCells s) 5 1] w ⟨_, p', cap', .inr rfl, ?_⟩ c.left⟩
  have hl : (l ++ s.data.toList).length = l.length + s.size := by rw [List.length_append, Array.length_toList]; rfl
  rw [hl, strCells_bytes, Lib.byteCells_append]

theorem String_use {W w : World} {S R : List Own} {Φ : PW} [Stable Φ] {b : Nat} {l : List UInt8} (h : BdT b l R) (c : Ctx W w (R ++ S) Φ) {K : Ending → World → Prop}
    (hk : ∀ w', Ctx W w' S Φ → K (.returned (.string ⟨l.toArray⟩)) w') : Calls Tryz.prog F.strings_Builder_String #[.pointer (some ⟨b, 0, none⟩)] w K :=
  Bd.string Tryz.lays169 Tryz.Builder_Extra_169 h c hk

end Go.Proofs.YtbkpfhhhbhaecaaGreatDoor
end

section
set_option linter.unusedVariables false
set_option linter.unusedSimpArgs false
namespace Go.Vc

section
variable {ε : Type} {le : ε → ε → Prop}

structure Ord (le : ε → ε → Prop) : Prop where
  total : ∀ x y, le x y ∨ le y x
  trans : ∀ x y z, le x y → le y z → le x z

theorem Ord.refl (h : Ord le) (x : ε) : le x x := (h.total x x).elim id id

abbrev Asc (le : ε → ε → Prop) (l : List ε) : Prop := l.Pairwise le

theorem asc_app {a b : List ε} (ha : Asc le a) (hb : Asc le b) (h : ∀ x ∈ a, ∀ y ∈ b, le x y) : Asc le (a ++ b) := List.pairwise_append.2 ⟨ha, hb, h⟩

theorem asc_get {l : List ε} (h : Asc le l) {i j : Nat} (hij : i < j) (hj : j < l.length) : le (l[i]'(by omega)) l[j] := List.pairwise_iff_getElem.1 h i j (by omega) hj hij

theorem asc_le (ho : Ord le) {l : List ε} (h : Asc le l) {i j : Nat} (hij : i ≤ j) (hj : j < l.length) : le (l[i]'(by omega)) l[j] := by
  rcases Nat.eq_or_lt_of_le hij with e | hlt
  · subst e; exact ho.refl _
  · exact asc_get h hlt hj

theorem asc_put {a b : List ε} {x : ε} (h : Asc le (a ++ b)) (h1 : ∀ y ∈ a, le y x) (h2 : ∀ y ∈ b, le x y) : Asc le (a ++ x :: b) := by
  obtain ⟨ha, hb, hab⟩ := List.pairwise_append.1 h
  refine asc_app ha (List.pairwise_cons.2 ⟨h2, hb⟩) fun y hy z hz => ?_
  rcases List.mem_cons.1 hz with rfl | hz
  · exact h1 y hy
  · exact hab y hy z hz

theorem sym_split (ho : Ord le) {x y : List ε} (hx : Asc le x) (hy : Asc le y) (s t : Nat) (hs : s ≤ x.length) (ht : t ≤ y.length)
    (h1 : ∀ (h0 : 0 < s) (ht' : t < y.length), le (x[s - 1]'(by omega)) y[t]) (h2 : ∀ (h0 : 0 < t) (hs' : s < x.length), le (y[t - 1]'(by omega)) x[s]) :
    ∀ a ∈ x.take s ++ y.take t, ∀ b ∈ x.drop s ++ y.drop t, le a b := by
  have xx : ∀ a ∈ x.take s, ∀ b ∈ x.drop s, le a b := by
    have := hx
    rw [← List.take_append_drop s x] at this
    exact (List.pairwise_append.1 this).2.2
  have yy : ∀ a ∈ y.take t, ∀ b ∈ y.drop t, le a b := by
    have := hy
    rw [← List.take_append_drop t y] at this
    exact (List.pairwise_append.1 this).2.2
  have xy : ∀ a ∈ x.take s, ∀ b ∈ y.drop t, le a b := fun a ha b hb => by
    obtain ⟨i, hi, rfl⟩ := List.getElem_of_mem ha
    obtain ⟨j, hj, rfl⟩ := List.getElem_of_mem hb
    rw [List.length_take] at hi
    rw [List.length_drop] at hj
    rw [List.getElem_take, List.getElem_drop]
    exact ho.trans _ _ _ (asc_le ho hx (i := i) (j := s - 1) (by omega) (by omega)) (ho.trans _ _ _ (h1 (by omega) (by omega)) (asc_le ho hy (i := t) (j := t + j) (by omega) (by omega)))
  have yx : ∀ a ∈ y.take t, ∀ b ∈ x.drop s, le a b := fun a ha b hb => by
    obtain ⟨i, hi, rfl⟩ := List.getElem_of_mem ha
    obtain ⟨j, hj, rfl⟩ := List.getElem_of_mem hb
    rw [List.length_take] at hi
    rw [List.length_drop] at hj
    rw [List.getElem_take, List.getElem_drop]
    exact ho.trans _ _ _ (asc_le ho hy (i := i) (j := t - 1) (by omega) (by omega)) (ho.trans _ _ _ (h2 (by omega) (by omega)) (asc_le ho hx (i := s) (j := s + j) (by omega) (by omega)))
  intro a ha b hb
  rcases List.mem_append.1 ha with ha | ha <;> rcases List.mem_append.1 hb with hb | hb
  · exact xx a ha b hb
  · exact xy a ha b hb
  · exact yx a ha b hb
  · exact yy a ha b hb

theorem asc_take {l : List ε} (h : Asc le l) (k : Nat) : Asc le (l.take k) := h.sublist (List.take_sublist k l)
theorem asc_drop {l : List ε} (h : Asc le l) (k : Nat) : Asc le (l.drop k) := h.sublist (List.drop_sublist k l)

def swp (l : List ε) (i j : Nat) : List ε := match l[i]?, l[j]? with
  | some x, some y => (l.set i y).set j x
  | _, _ => l

theorem swp_eq {l : List ε} {i j : Nat} (hi : i < l.length) (hj : j < l.length) : swp l i j = (l.set i l[j]).set j l[i] := by
  unfold swp
  rw [List.getElem?_eq_getElem hi, List.getElem?_eq_getElem hj]

theorem swp_next (a : List ε) (x y : ε) (b : List ε) : swp (a ++ x :: y :: b) a.length (a.length + 1) = a ++ y :: x :: b := by
  rw [swp_eq (by simp) (by simp)]
  simp [List.getElem_append_right, List.set_append]

theorem swp_far (a : List ε) (x : ε) (b : List ε) (y : ε) (c : List ε) : swp (a ++ x :: (b ++ y :: c)) a.length (a.length + 1 + b.length) = a ++ y :: (b ++ x :: c) := by
  have e : a ++ x :: (b ++ y :: c) = (a ++ x :: b) ++ y :: c := by simp
  have h1 : a.length < (a ++ x :: (b ++ y :: c)).length := by simp
  have h2 : a.length + 1 + b.length < (a ++ x :: (b ++ y :: c)).length := by simp; omega
  rw [swp_eq h1 h2]
  have g1 : (a ++ x :: (b ++ y :: c))[a.length]'h1 = x := by simp
  have g2 : (a ++ x :: (b ++ y :: c))[a.length + 1 + b.length]'h2 = y := by
    have : (a ++ x :: (b ++ y :: c))[a.length + 1 + b.length]? = some y := by
      rw [e, List.getElem?_append_right (by simp; omega)]
      simp
      rw [show a.length + 1 + b.length - (a.length + (b.length + 1)) = 0 by omega]
      rfl
    rw [List.getElem?_eq_getElem h2] at this
    exact Option.some.inj this
  rw [g1, g2]
  apply List.ext_getElem?
  intro k
  by_cases hk : k = a.length + 1 + b.length
  · subst hk
    rw [List.getElem?_set_self (by simp; omega)]
    have e2 : a ++ y :: (b ++ x :: c) = (a ++ y :: b) ++ x :: c := by simp
    rw [e2, List.getElem?_append_right (by simp; omega)]
    simp
    rw [show a.length + 1 + b.length - (a.length + (b.length + 1)) = 0 by omega]
    rfl
  · rw [List.getElem?_set_ne (by omega)]
    by_cases hk2 : k = a.length
    · subst hk2
      rw [List.getElem?_set_self h1]
      simp
    · rw [List.getElem?_set_ne (by omega)]
      by_cases hk3 : k < a.length
      · rw [List.getElem?_append_left hk3, List.getElem?_append_left hk3]
      · rw [List.getElem?_append_right (by omega), List.getElem?_append_right (by omega)]
        obtain ⟨m, hm⟩ : ∃ m, k - a.length = m + 1 := ⟨k - a.length - 1, by omega⟩
        rw [hm, List.getElem?_cons_succ, List.getElem?_cons_succ]
        by_cases hm2 : m < b.length
        · rw [List.getElem?_append_left hm2, List.getElem?_append_left hm2]
        · rw [List.getElem?_append_right (by omega), List.getElem?_append_right (by omega)]
          obtain ⟨q, hq⟩ : ∃ q, m - b.length = q + 1 := ⟨m - b.length - 1, by omega⟩
          rw [hq, List.getElem?_cons_succ, List.getElem?_cons_succ]

structure Chunks (le : ε → ε → Prop) (bs : Nat) (cs : List (List ε)) (rest : List ε) : Prop where
  len : ∀ c ∈ cs, c.length = bs
  asc : ∀ c ∈ cs, Asc le c
  last : Asc le rest
  short : rest.length < bs

end

end Go.Vc
end

section
set_option linter.unusedVariables false
set_option linter.unusedSimpArgs false
namespace Go.Proofs.YtbkpfhhhbhaecaaGreatDoor
open Go.Vc

structure ValD where
  kind : Int
  num : Int
  text : ByteArray
instance : Gv ValD := Gv.via (β := Int × Int × ByteArray) (fun x => (x.kind, x.num, x.text)) (fun y => ⟨y.1, y.2.1, y.2.2⟩) (fun _ => rfl)

structure DeltaD where
  time : Int
  row : List ValD
  n : Int
instance : Gv DeltaD := Gv.via (β := Int × List ValD × Int) (fun x => (x.time, x.row, x.n)) (fun y => ⟨y.1, y.2.1, y.2.2⟩) (fun _ => rfl)

abbrev ValD.v (x : ValD) : Value := .agg #[.int .i64 x.kind, .int .i64 x.num, .string x.text]

theorem val_ext {x y : ValD} : x = y ↔ (x.kind = y.kind ∧ (x.num = y.num ∧ x.text = y.text)) := by
  cases x; cases y; simp
instance : DecidableEq ValD := fun _ _ => decidable_of_iff _ val_ext.symm

structure Cmp {α : Type} (c : α → α → Int) : Prop where
  eq : ∀ x y, c x y = 0 ↔ x = y
  anti : ∀ x y, 0 < c x y ↔ c y x < 0
  trans : ∀ x y z, c x y < 0 → c y z < 0 → c x z < 0
  bd : ∀ x y, -1 ≤ c x y ∧ c x y ≤ 1

theorem Cmp.refl {α : Type} {c : α → α → Int} (h : Cmp c) (x : α) : c x x = 0 := (h.eq x x).2 rfl
theorem Cmp.tri {α : Type} {c : α → α → Int} (h : Cmp c) (x y : α) : c x y < 0 ∨ x = y ∨ c y x < 0 := by
  rcases Int.lt_trichotomy (c x y) 0 with h1 | h1 | h1
  · exact .inl h1
  · exact .inr (.inl ((h.eq x y).1 h1))
  · exact .inr (.inr ((h.anti x y).1 h1))
def cmpI (x y : Int) : Int := if x < y then -1 else if y < x then 1 else 0

theorem cmpI_cmp : Cmp cmpI := by
  refine ⟨fun x y => ?_, fun x y => ?_, fun x y z => ?_, fun x y => ?_⟩
  · unfold cmpI; split
    · constructor <;> intro h <;> omega
    · split
      · constructor <;> intro h <;> omega
      · constructor <;> intro h <;> omega
  · unfold cmpI; split <;> split <;> try split
    all_goals first | omega | (split <;> omega)
  · unfold cmpI; split
    · intro _
      split
      · intro _; rw [if_pos (by omega)]; omega
      · split <;> (intro h; omega)
    · split <;> (intro h; omega)
  · unfold cmpI; split; omega; split <;> omega

theorem bytes_cmp : Cmp Lib.compareBytes := by
  have heq : ∀ a b : List UInt8, Lib.compareBytes a b = 0 ↔ a = b := by
    intro a
    induction a with
    | nil => intro b; cases b <;> simp [Lib.compareBytes]
    | cons x a ih =>
      intro b
      cases b with
      | nil => simp [Lib.compareBytes]
      | cons y b =>
        unfold Lib.compareBytes
        split
        · rename_i h; constructor
          · intro h'; omega
          · intro h'; simp only [List.cons.injEq] at h'; rw [h'.1] at h; exact absurd h (by exact UInt8.lt_irrefl y)
        · split
          · rename_i h; constructor
            · intro h'; omega
            · intro h'; simp only [List.cons.injEq] at h'; rw [h'.1] at h; exact absurd h (by exact UInt8.lt_irrefl y)
          · rename_i h1 h2
            have : x = y := UInt8.le_antisymm (UInt8.not_lt.1 h2) (UInt8.not_lt.1 h1)
            subst this
            rw [ih b]
            simp
  have hanti : ∀ a b : List UInt8, 0 < Lib.compareBytes a b ↔ Lib.compareBytes b a < 0 := by
    intro a
    induction a with
    | nil => intro b; cases b <;> simp [Lib.compareBytes]
    | cons x a ih =>
      intro b
      cases b with
      | nil => simp [Lib.compareBytes]
      | cons y b =>
        unfold Lib.compareBytes
        by_cases h1 : x < y
        · rw [if_pos h1, if_neg (UInt8.lt_asymm h1), if_pos h1]; omega
        · rw [if_neg h1]
          by_cases h2 : y < x
          · rw [if_pos h2, if_pos h2]; omega
          · rw [if_neg h2, if_neg h2, if_neg h1]; exact ih b
  have htrans : ∀ a b c : List UInt8, Lib.compareBytes a b < 0 → Lib.compareBytes b c < 0 → Lib.compareBytes a c < 0 := by
    intro a
    induction a with
    | nil =>
      intro b c h1 h2
      cases c with
      | nil => cases b <;> simp [Lib.compareBytes] at h2
      | cons => simp [Lib.compareBytes]
    | cons x a ih =>
      intro b c h1 h2
      cases b with
      | nil => simp [Lib.compareBytes] at h1
      | cons y b =>
        cases c with
        | nil => simp [Lib.compareBytes] at h2
        | cons z c =>
          unfold Lib.compareBytes at h1 h2 ⊢
          by_cases hxy : x < y
          · by_cases hyz : y < z
            · rw [if_pos (UInt8.lt_trans hxy hyz)]; omega
            · rw [if_neg hyz] at h2
              by_cases hzy : z < y
              · rw [if_pos hzy] at h2; omega
              · have : y = z := UInt8.le_antisymm (UInt8.not_lt.1 hzy) (UInt8.not_lt.1 hyz)
                subst this
                rw [if_pos hxy]; omega
          · rw [if_neg hxy] at h1
            by_cases hyx : y < x
            · rw [if_pos hyx] at h1; omega
            · have : x = y := UInt8.le_antisymm (UInt8.not_lt.1 hyx) (UInt8.not_lt.1 hxy)
              subst this
              rw [if_neg hyx] at h1
              by_cases hyz : x < z
              · rw [if_pos hyz]; omega
              · rw [if_neg hyz] at h2 ⊢
                by_cases hzy : z < x
                · rw [if_pos hzy] at h2; omega
                · rw [if_neg hzy] at h2 ⊢
                  exact ih b c h1 h2
  have hbd : ∀ a b : List UInt8, -1 ≤ Lib.compareBytes a b ∧ Lib.compareBytes a b ≤ 1 := by
    intro a
    induction a with
    | nil => intro b; cases b <;> simp [Lib.compareBytes]
    | cons x a ih =>
      intro b
      cases b with
      | nil => simp [Lib.compareBytes]
      | cons y b =>
        unfold Lib.compareBytes
        split
        · omega
        · split
          · omega
          · exact ih b
  exact ⟨heq, hanti, htrans, hbd⟩

def cmpT (a b : ByteArray) : Int := Lib.compareBytes a.data.toList b.data.toList
theorem cmpT_cmp : Cmp cmpT :=
  ⟨fun x y => (bytes_cmp.eq _ _).trans ⟨fun h => ByteArray.ext (Array.toList_inj.1 h), fun h => by rw [h]⟩, fun x y => bytes_cmp.anti _ _, fun x y z => bytes_cmp.trans _ _ _, fun x y => bytes_cmp.bd _ _⟩

def orI : List Int → Int
  | [] => 0
  | x :: r => if x ≠ 0 then x else orI r

theorem orI_two (a b : Int) : orI [a, b] = if a ≠ 0 then a else b := by
  unfold orI orI orI
  split
  · rfl
  · split
    · rfl
    · omega

def lex {α β : Type} (c : α → α → Int) (d : β → β → Int) (x y : α × β) : Int := if c x.1 y.1 ≠ 0 then c x.1 y.1 else d x.2 y.2

theorem lex_cmp {α β : Type} {c : α → α → Int} {d : β → β → Int} (hc : Cmp c) (hd : Cmp d) : Cmp (lex c d) := by
  refine ⟨fun x y => ?_, fun x y => ?_, fun x y z h1 h2 => ?_, fun x y => ?_⟩
  · unfold lex
    by_cases h : c x.1 y.1 = 0
    · rw [if_neg (by simp [h]), hd.eq]
      have := (hc.eq _ _).1 h
      constructor
      · intro h'; exact Prod.ext this h'
      · intro h'; rw [h']
    · rw [if_pos h]
      constructor
      · intro h'; exact absurd h' h
      · intro h'; rw [h'] at h; exact absurd (hc.refl _) h
  · unfold lex
    by_cases h : c x.1 y.1 = 0
    · have := (hc.eq _ _).1 h
      rw [if_neg (by simp [h]), if_neg (by rw [this]; simp [hc.refl])]
      exact hd.anti _ _
    · have h2 : c y.1 x.1 ≠ 0 := fun e => h ((hc.eq _ _).2 ((hc.eq _ _).1 e).symm)
      rw [if_pos h, if_pos h2]
      exact hc.anti _ _
  · unfold lex at h1 h2 ⊢
    by_cases e1 : c x.1 y.1 = 0
    · rw [if_neg (by simp [e1])] at h1
      have q := (hc.eq _ _).1 e1
      rw [q]
      by_cases e2 : c y.1 z.1 = 0
      · rw [if_neg (by simp [e2])] at h2 ⊢
        exact hd.trans _ _ _ h1 h2
      · rw [if_pos e2] at h2 ⊢
        exact h2
    · rw [if_pos e1] at h1
      by_cases e2 : c y.1 z.1 = 0
      · have q := (hc.eq _ _).1 e2
        rw [← q, if_pos e1]
        exact h1
      · rw [if_pos e2] at h2
        have := hc.trans _ _ _ h1 h2
        rw [if_pos (by omega)]
        exact this
  · unfold lex
    split
    · exact hc.bd _ _
    · exact hd.bd _ _

theorem Cmp.on {α β : Type} {c : β → β → Int} (h : Cmp c) (f : α → β) (hf : ∀ x y, f x = f y → x = y) : Cmp (fun x y => c (f x) (f y)) :=
  ⟨fun x y => ⟨fun e => hf _ _ ((h.eq _ _).1 e), fun e => by rw [e]; exact h.refl _⟩, fun x y => h.anti _ _, fun x y z => h.trans _ _ _, fun x y => h.bd _ _⟩

abbrev cmpL (x y : ValD) : List Int := [cmpI x.kind y.kind, cmpI x.num y.num, cmpT x.text y.text]
def cmpV (x y : ValD) : Int := orI (cmpL x y)

theorem cmpV_lex (x y : ValD) : cmpV x y = lex cmpI (lex cmpI cmpT) (x.kind, x.num, x.text) (y.kind, y.num, y.text) := by
  unfold cmpV cmpL lex
  rw [orI]
  split
  · rfl
  · rw [orI_two]

theorem cmpV_cmp : Cmp cmpV := by
  have h := (lex_cmp cmpI_cmp (lex_cmp cmpI_cmp cmpT_cmp)).on (fun x : ValD => (x.kind, x.num, x.text)) (fun x y e => by cases x; cases y; simpa using e)
  have e : cmpV = fun x y => lex cmpI (lex cmpI cmpT) (x.kind, x.num, x.text) (y.kind, y.num, y.text) := by funext x y; exact cmpV_lex x y
  rw [e]; exact h

def cmpR : List ValD → List ValD → Int
  | [], [] => 0
  | [], _ :: _ => -1
  | _ :: _, [] => 1
  | a :: ar, b :: br => if cmpV a b ≠ 0 then cmpV a b else cmpR ar br

theorem cmpR_cmp : Cmp cmpR := by
  refine ⟨?_, ?_, ?_, ?_⟩
  · intro x
    induction x with
    | nil => intro y; cases y <;> simp [cmpR]
    | cons a x ih =>
      intro y
      cases y with
      | nil => simp [cmpR]
      | cons b y =>
        unfold cmpR
        by_cases h : cmpV a b = 0
        · rw [if_neg (by simp [h]), ih y, (cmpV_cmp.eq _ _).1 h]; simp
        · rw [if_pos h]
          constructor
          · intro h'; exact absurd h' h
          · intro h'; simp only [List.cons.injEq] at h'; rw [h'.1] at h; exact absurd (cmpV_cmp.refl _) h
  · intro x
    induction x with
    | nil => intro y; cases y <;> simp [cmpR]
    | cons a x ih =>
      intro y
      cases y with
      | nil => simp [cmpR]
      | cons b y =>
        unfold cmpR
        by_cases h : cmpV a b = 0
        · have := (cmpV_cmp.eq _ _).1 h
          rw [if_neg (by simp [h]), if_neg (by rw [this]; simp [cmpV_cmp.refl])]
          exact ih y
        · have h2 : cmpV b a ≠ 0 := fun e => h ((cmpV_cmp.eq _ _).2 ((cmpV_cmp.eq _ _).1 e).symm)
          rw [if_pos h, if_pos h2]
          exact cmpV_cmp.anti _ _
  · intro x
    induction x with
    | nil =>
      intro y z h1 h2
      cases z with
      | nil => cases y <;> simp [cmpR] at h2
      | cons => simp [cmpR]
    | cons a x ih =>
      intro y z h1 h2
      cases y with
      | nil => simp [cmpR] at h1
      | cons b y =>
        cases z with
        | nil => simp [cmpR] at h2
        | cons c z =>
          unfold cmpR at h1 h2 ⊢
          by_cases e1 : cmpV a b = 0
          · rw [if_neg (by simp [e1])] at h1
            have q := (cmpV_cmp.eq _ _).1 e1
            rw [q]
            by_cases e2 : cmpV b c = 0
            · rw [if_neg (by simp [e2])] at h2 ⊢
              exact ih y z h1 h2
            · rw [if_pos e2] at h2 ⊢
              exact h2
          · rw [if_pos e1] at h1
            by_cases e2 : cmpV b c = 0
            · have q := (cmpV_cmp.eq _ _).1 e2
              rw [← q, if_pos e1]
              exact h1
            · rw [if_pos e2] at h2
              have := cmpV_cmp.trans _ _ _ h1 h2
              rw [if_pos (by omega)]
              exact this
  · intro x
    induction x with
    | nil => intro y; cases y <;> simp [cmpR]
    | cons a x ih =>
      intro y
      cases y with
      | nil => simp [cmpR]
      | cons b y =>
        unfold cmpR
        split
        · exact cmpV_cmp.bd _ _
        · exact ih y

theorem cmpR_left {l r : List ValD} {i : Nat} (hi : i < l.length) (hr : r.length ≤ i) : cmpR (l.drop i) (r.drop i) = 1 := by
  rw [List.drop_eq_getElem_cons hi, List.drop_of_length_le hr]; rfl
theorem cmpR_both {l r : List ValD} {i : Nat} (hi : i < l.length) (hr : i < r.length) : cmpR (l.drop i) (r.drop i) = if cmpV l[i] r[i] ≠ 0 then cmpV l[i] r[i] else cmpR (l.drop (i + 1)) (r.drop (i + 1)) := by
  rw [List.drop_eq_getElem_cons hi, List.drop_eq_getElem_cons hr]; rfl

abbrev Key : Type := Int × List ValD
abbrev DeltaD.key (x : DeltaD) : Key := (x.time, x.row)
def cmpK (x y : Key) : Int := lex cmpI cmpR x y
theorem cmpK_cmp : Cmp cmpK := lex_cmp cmpI_cmp cmpR_cmp
abbrev cmpDL (x y : DeltaD) : List Int := [cmpI x.time y.time, cmpR x.row y.row]
def cmpD (x y : DeltaD) : Int := orI (cmpDL x y)
theorem cmpD_key (x y : DeltaD) : cmpD x y = cmpK x.key y.key := by
  unfold cmpD cmpDL cmpK lex
  rw [orI_two]
theorem delta_ext {x y : DeltaD} (h1 : x.key = y.key) (h2 : x.n = y.n) : x = y := by
  cases x; cases y
  simp only [DeltaD.key, Prod.mk.injEq] at h1
  simp only at h2
  obtain ⟨rfl, rfl⟩ := h1
  subst h2
  rfl

end Go.Proofs.YtbkpfhhhbhaecaaGreatDoor
end

section
set_option linter.unusedVariables false
set_option linter.unusedSimpArgs false
namespace Go.Proofs.YtbkpfhhhbhaecaaGreatDoor
open Go.Vc

abbrev w64 (x : Int) : Int := IntKind.i64.wrap x
theorem w64_eq (x : Int) : w64 x = if 9223372036854775808 ≤ x % 18446744073709551616 then x % 18446744073709551616 - 18446744073709551616 else x % 18446744073709551616 := by
  simp [w64, IntKind.wrap, IntKind.signed, IntKind.bits]
theorem w64_in (x : Int) : I64 (w64 x) := by rw [w64_eq]; unfold I64; split <;> omega
theorem w64_id {x : Int} (h : I64 x) : w64 x = x := by rw [w64_eq]; unfold I64 at h; split <;> omega
theorem w64_mod (x : Int) : (w64 x - x) % 18446744073709551616 = 0 := by rw [w64_eq]; split <;> omega
theorem w64_cong {x y : Int} (h : (x - y) % 18446744073709551616 = 0) : w64 x = w64 y := by
  rw [w64_eq, w64_eq]
  have : x % 18446744073709551616 = y % 18446744073709551616 := by omega
  rw [this]
theorem w64_l (x y : Int) : w64 (w64 x + y) = w64 (x + y) := w64_cong (by have := w64_mod x; omega)
theorem w64_r (x y : Int) : w64 (x + w64 y) = w64 (x + y) := w64_cong (by have := w64_mod y; omega)
theorem w64_w (x : Int) : w64 (w64 x) = w64 x := w64_id (w64_in x)

def sumK : List DeltaD → Key → Int
  | [], _ => 0
  | x :: l, k => (if x.key = k then x.n else 0) + sumK l k

def findP (l : List DeltaD) (k : Key) : Int := w64 (sumK l k)

theorem sumK_app : ∀ (a b : List DeltaD) (k : Key), sumK (a ++ b) k = sumK a k + sumK b k
  | [], b, k => by simp [sumK]
  | x :: a, b, k => by simp only [List.cons_append, sumK, sumK_app a b k]; omega

theorem sumK_perm {a b : List DeltaD} (h : a.Perm b) (k : Key) : sumK a k = sumK b k := by
  induction h with
  | nil => rfl
  | cons x _ ih => simp only [sumK, ih]
  | swap x y l => simp only [sumK]; omega
  | trans _ _ h1 h2 => exact h1.trans h2

theorem findP_perm {a b : List DeltaD} (h : a.Perm b) (k : Key) : findP a k = findP b k := by unfold findP; rw [sumK_perm h]

theorem findP_app (a b : List DeltaD) (k : Key) : findP (a ++ b) k = w64 (findP a k + findP b k) := by
  unfold findP
  rw [w64_l, w64_r, sumK_app]

theorem sumK_none {l : List DeltaD} {k : Key} (h : ∀ x ∈ l, x.key ≠ k) : sumK l k = 0 := by
  induction l with
  | nil => rfl
  | cons x l ih =>
    simp only [sumK]
    rw [if_neg (h x (by simp)), ih fun y hy => h y (by simp [hy])]
    rfl

structure Norm (c : List DeltaD) : Prop where
  asc : c.Pairwise fun x y => cmpD x y < 0
  nz : ∀ x ∈ c, x.n ≠ 0
  i64 : ∀ x ∈ c, I64 x.n

theorem Norm.nil : Norm [] := ⟨List.Pairwise.nil, by simp, by simp⟩
theorem Norm.tail {x : DeltaD} {c : List DeltaD} (h : Norm (x :: c)) : Norm c := ⟨(List.pairwise_cons.1 h.asc).2, fun y hy => h.nz y (by simp [hy]), fun y hy => h.i64 y (by simp [hy])⟩
theorem Norm.head {x : DeltaD} {c : List DeltaD} (h : Norm (x :: c)) : ∀ y ∈ c, cmpK x.key y.key < 0 := fun y hy => by
  rw [← cmpD_key]; exact (List.pairwise_cons.1 h.asc).1 y hy
theorem Norm.cons {x : DeltaD} {c : List DeltaD} (h : Norm c) (h1 : ∀ y ∈ c, cmpK x.key y.key < 0) (h2 : x.n ≠ 0) (h3 : I64 x.n) : Norm (x :: c) :=
  ⟨List.pairwise_cons.2 ⟨fun y hy => by rw [cmpD_key]; exact h1 y hy, h.asc⟩, fun y hy => by rcases List.mem_cons.1 hy with rfl | hy; exact h2; exact h.nz y hy, fun y hy => by rcases List.mem_cons.1 hy with rfl | hy; exact h3; exact h.i64 y hy⟩

theorem Norm.head_ne {x : DeltaD} {c : List DeltaD} (h : Norm (x :: c)) : ∀ y ∈ c, y.key ≠ x.key := fun y hy e => by
  have := h.head y hy
  rw [e, cmpK_cmp.refl] at this
  omega

theorem Norm.find_head {x : DeltaD} {c : List DeltaD} (h : Norm (x :: c)) : findP (x :: c) x.key = x.n := by
  unfold findP
  rw [show sumK (x :: c) x.key = (if x.key = x.key then x.n else 0) + sumK c x.key from rfl, if_pos rfl, sumK_none h.head_ne, Int.add_zero]
  exact w64_id (h.i64 x (by simp))

theorem norm_unique : ∀ {c d : List DeltaD}, Norm c → Norm d → (∀ k, findP c k = findP d k) → c = d := by
  have none : ∀ {c : List DeltaD} {x : DeltaD} {l : List DeltaD}, Norm (x :: l) → (∀ y ∈ c, y.key ≠ x.key) → findP (x :: l) x.key = findP c x.key → False := fun {c x l} h hc e => by
    rw [h.find_head] at e
    unfold findP at e
    rw [sumK_none hc] at e
    exact h.nz x (by simp) e
  intro c
  induction c with
  | nil =>
    intro d _ hd h
    cases d with
    | nil => rfl
    | cons y d => exact (none (c := []) hd (by simp) (h _).symm).elim
  | cons x c ih =>
    intro d hc hd h
    cases d with
    | nil => exact (none (c := []) hc (by simp) (h _)).elim
    | cons y d =>
      rcases cmpK_cmp.tri x.key y.key with hlt | he | hgt
      · refine (none (c := y :: d) hc (fun z hz e => ?_) (h _)).elim
        rcases List.mem_cons.1 hz with rfl | hz
        · rw [e, cmpK_cmp.refl] at hlt; omega
        · have := cmpK_cmp.trans _ _ _ hlt (hd.head z hz)
          rw [e, cmpK_cmp.refl] at this; omega
      · have hn : x.n = y.n := by rw [← hc.find_head, ← hd.find_head, ← he, h]
        have hxy : x = y := delta_ext he hn
        subst hxy
        congr 1
        refine ih hc.tail hd.tail fun k => ?_
        by_cases hk : x.key = k
        · subst hk
          unfold findP
          rw [sumK_none hc.head_ne, sumK_none hd.head_ne]
        · have := h k
          unfold findP at this ⊢
          simp only [sumK] at this
          rwa [if_neg hk, Int.zero_add, Int.zero_add] at this
      · refine (none (c := x :: c) hd (fun z hz e => ?_) (h _).symm).elim
        rcases List.mem_cons.1 hz with rfl | hz
        · rw [e, cmpK_cmp.refl] at hgt; omega
        · have := cmpK_cmp.trans _ _ _ hgt (hc.head z hz)
          rw [e, cmpK_cmp.refl] at this; omega

def insD (x : DeltaD) : List DeltaD → List DeltaD
  | [] => if w64 x.n = 0 then [] else [⟨x.time, x.row, w64 x.n⟩]
  | y :: t => if cmpD x y < 0 then (if w64 x.n = 0 then y :: t else ⟨x.time, x.row, w64 x.n⟩ :: y :: t)
      else if cmpD x y = 0 then (if w64 (x.n + y.n) = 0 then t else ⟨y.time, y.row, w64 (x.n + y.n)⟩ :: t)
      else y :: insD x t

theorem insD_key (x : DeltaD) : ∀ (c : List DeltaD), ∀ z ∈ insD x c, z.key = x.key ∨ ∃ y ∈ c, y.key = z.key := by
  intro c
  induction c with
  | nil =>
    intro z hz
    unfold insD at hz
    split at hz
    · cases hz
    · rcases List.mem_singleton.1 hz with rfl; exact .inl rfl
  | cons y t ih =>
    intro z hz
    unfold insD at hz
    split at hz
    · split at hz
      · exact .inr ⟨z, hz, rfl⟩
      · rcases List.mem_cons.1 hz with rfl | hz
        · exact .inl rfl
        · exact .inr ⟨z, hz, rfl⟩
    · split at hz
      · split at hz
        · exact .inr ⟨z, by simp [hz], rfl⟩
        · rcases List.mem_cons.1 hz with rfl | hz
          · exact .inr ⟨y, by simp, rfl⟩
          · exact .inr ⟨z, by simp [hz], rfl⟩
      · rcases List.mem_cons.1 hz with rfl | hz
        · exact .inr ⟨z, by simp, rfl⟩
        · rcases ih z hz with h | ⟨y', hy, h⟩
          · exact .inl h
          · exact .inr ⟨y', by simp [hy], h⟩

theorem insD_norm (x : DeltaD) : ∀ {c : List DeltaD}, Norm c → Norm (insD x c) ∧ ∀ k, findP (insD x c) k = findP (x :: c) k := by
  intro c
  induction c with
  | nil =>
    intro _
    unfold insD
    split
    · rename_i h
      refine ⟨Norm.nil, fun k => ?_⟩
      unfold findP
      simp only [sumK]
      split
      · rw [Int.add_zero, h]; rfl
      · rfl
    · rename_i h
      refine ⟨Norm.nil.cons (by simp) h (w64_in _), fun k => ?_⟩
      unfold findP
      simp only [sumK]
      by_cases hk : x.key = k
      · rw [if_pos hk, if_pos (show (⟨x.time, x.row, w64 x.n⟩ : DeltaD).key = k from hk), Int.add_zero, Int.add_zero, w64_w]
      · rw [if_neg hk, if_neg (show ¬ (⟨x.time, x.row, w64 x.n⟩ : DeltaD).key = k from hk)]
  | cons y t ih =>
    intro h
    unfold insD
    by_cases h1 : cmpD x y < 0
    · rw [if_pos h1]
      have hlt : ∀ z ∈ y :: t, cmpK x.key z.key < 0 := fun z hz => by
        rw [cmpD_key] at h1
        rcases List.mem_cons.1 hz with rfl | hz
        · exact h1
        · exact cmpK_cmp.trans _ _ _ h1 (h.head z hz)
      split
      · rename_i hz
        refine ⟨h, fun k => ?_⟩
        unfold findP
        rw [show sumK (x :: y :: t) k = (if x.key = k then x.n else 0) + sumK (y :: t) k from rfl]
        split
        · rw [← w64_l, hz, Int.zero_add]
        · rw [Int.zero_add]
      · rename_i hz
        refine ⟨h.cons hlt hz (w64_in _), fun k => ?_⟩
        unfold findP
        rw [show sumK (x :: y :: t) k = (if x.key = k then x.n else 0) + sumK (y :: t) k from rfl,
          show sumK (⟨x.time, x.row, w64 x.n⟩ :: y :: t) k = (if x.key = k then w64 x.n else 0) + sumK (y :: t) k from rfl]
        split
        · rw [w64_l]
        · rfl
    · rw [if_neg h1]
      by_cases h2 : cmpD x y = 0
      · rw [if_pos h2]
        have hk : x.key = y.key := by rw [cmpD_key] at h2; exact (cmpK_cmp.eq _ _).1 h2
        split
        · rename_i hz
          refine ⟨h.tail, fun k => ?_⟩
          unfold findP
          rw [show sumK (x :: y :: t) k = (if x.key = k then x.n else 0) + ((if y.key = k then y.n else 0) + sumK t k) from rfl, hk]
          split
          · rw [← Int.add_assoc, ← w64_l, hz, Int.zero_add]
          · rw [Int.zero_add, Int.zero_add]
        · rename_i hz
          refine ⟨h.tail.cons (fun z hz' => h.head z hz') hz (w64_in _), fun k => ?_⟩
          unfold findP
          rw [show sumK (x :: y :: t) k = (if x.key = k then x.n else 0) + ((if y.key = k then y.n else 0) + sumK t k) from rfl, hk,
            show sumK (⟨y.time, y.row, w64 (x.n + y.n)⟩ :: t) k = (if y.key = k then w64 (x.n + y.n) else 0) + sumK t k from rfl]
          split
          · rw [w64_l, Int.add_assoc]
          · simp only [Int.zero_add]
      · rw [if_neg h2]
        obtain ⟨ih1, ih2⟩ := ih h.tail
        have hgt : cmpK y.key x.key < 0 := by
          rw [cmpD_key] at h1 h2
          exact (cmpK_cmp.anti _ _).1 (by omega)
        refine ⟨ih1.cons (fun z hz => ?_) (h.nz y (by simp)) (h.i64 y (by simp)), fun k => ?_⟩
        · rcases insD_key x t z hz with e | ⟨y', hy', e⟩
          · rw [e]; exact hgt
          · rw [← e]; exact h.head y' hy'
        · have := ih2 k
          unfold findP at this ⊢
          rw [show sumK (y :: insD x t) k = (if y.key = k then y.n else 0) + sumK (insD x t) k from rfl, show sumK (x :: y :: t) k = (if x.key = k then x.n else 0) + ((if y.key = k then y.n else 0) + sumK t k) from rfl, ← w64_r, this, w64_r]
          rw [show sumK (x :: t) k = (if x.key = k then x.n else 0) + sumK t k from rfl]
          congr 1
          omega

def consP (l : List DeltaD) : List DeltaD := l.foldr insD []

theorem consP_norm (l : List DeltaD) : Norm (consP l) ∧ ∀ k, findP (consP l) k = findP l k := by
  induction l with
  | nil => exact ⟨Norm.nil, fun k => rfl⟩
  | cons x l ih =>
    obtain ⟨h1, h2⟩ := insD_norm x ih.1
    refine ⟨h1, fun k => ?_⟩
    show findP (insD x (consP l)) k = _
    rw [h2]
    have := ih.2 k
    unfold findP at this ⊢
    rw [show sumK (x :: consP l) k = (if x.key = k then x.n else 0) + sumK (consP l) k from rfl, show sumK (x :: l) k = (if x.key = k then x.n else 0) + sumK l k from rfl, ← w64_r, this, w64_r]

theorem consP_is {l c : List DeltaD} (h : Norm c) (hf : ∀ k, findP c k = findP l k) : consP l = c :=
  norm_unique (consP_norm l).1 h fun k => by rw [(consP_norm l).2, hf]
theorem consP_self {l : List DeltaD} (h : Norm l) : consP l = l := consP_is h fun _ => rfl
theorem consP_cons (l : List DeltaD) : consP (consP l) = consP l := consP_self (consP_norm l).1

theorem insD_len (x : DeltaD) : ∀ c : List DeltaD, (insD x c).length ≤ c.length + 1
  | [] => by unfold insD; split <;> simp
  | y :: t => by
    unfold insD
    split
    · split <;> simp
    · split
      · split <;> simp <;> omega
      · have := insD_len x t
        simp only [List.length_cons]; omega
theorem consP_len : ∀ l : List DeltaD, (consP l).length ≤ l.length
  | [] => Nat.le_refl _
  | x :: l => by
    have h1 := insD_len x (consP l)
    have h2 := consP_len l
    show (insD x (consP l)).length ≤ l.length + 1
    omega

end Go.Proofs.YtbkpfhhhbhaecaaGreatDoor
end

section
set_option linter.unusedVariables false
set_option linter.unusedSimpArgs false
namespace Go.Proofs.YtbkpfhhhbhaecaaGreatDoor
open Go.Vc

abbrev DeltaD.v (x : DeltaD) (p : Option Addr) (c : Nat) : Value := .agg #[.int .i64 x.time, .slice p x.row.length c, .int .i64 x.n]
abbrev DeltaD.cells (x : DeltaD) (p : Option Addr) (c : Nat) : List Value := [.int .i64 x.time, .slice p x.row.length c, .int .i64 x.n]

theorem delta_cells {M : List Nat} {w : World} {cs : List Value} {x : DeltaD} (h : Gv.rep M w cs x) : ∃ p c, cs = x.cells p c ∧ x.row.length ≤ c ∧ c ≤ maxLen ∧ I64 x.time ∧ I64 x.n ∧ Sl M w p x.row := by
  obtain ⟨_, _, rfl, ⟨rfl, ht⟩, _, _, rfl, ⟨p, c, rfl, h1, h2, h3⟩, rfl, hn⟩ := h
  exact ⟨p, c, rfl, h1, h2, ht, hn, h3⟩

theorem rep_delta {M : List Nat} {w : World} {x : DeltaD} {p : Option Addr} {c : Nat} (h1 : x.row.length ≤ c) (h2 : c ≤ maxLen) (h3 : I64 x.time) (h4 : I64 x.n) (h5 : Sl M w p x.row) : Gv.rep M w (x.cells p c) x :=
  ⟨[.int .i64 x.time], [.slice p x.row.length c, .int .i64 x.n], rfl, ⟨rfl, h3⟩, [.slice p x.row.length c], [.int .i64 x.n], rfl, ⟨p, c, rfl, h1, h2, h5⟩, rfl, h4⟩

theorem delta_row {M : List Nat} {w : World} {x : DeltaD} {p : Option Addr} {c : Nat} (h : Gv.rep M w (x.cells p c) x) : Sl M w p x.row := by
  obtain ⟨p', c', e, _, _, _, _, h1⟩ := delta_cells h
  simp only [DeltaD.cells, List.cons.injEq, Value.slice.injEq] at e
  rw [e.2.1.1]
  exact h1

theorem delta_one (M : List Nat) (w : World) (cs : List Value) (x : DeltaD) (h : Gv.rep M w cs x) : (cs.all fun u => oneC u) = true := by
  obtain ⟨p, c, rfl, _⟩ := delta_cells h
  rfl

structure DE where
  d : DeltaD
  p : Option Addr
  c : Nat
abbrev DE.cells (x : DE) : List Value := x.d.cells x.p x.c
abbrev DE.v (x : DE) : Value := x.d.v x.p x.c

def cellsE : List DE → List Value
  | [] => []
  | x :: l => .int .i64 x.d.time :: .slice x.p x.d.row.length x.c :: .int .i64 x.d.n :: cellsE l

theorem cellsE_len : ∀ l : List DE, (cellsE l).length = l.length * 3
  | [] => rfl
  | x :: l => by simp only [cellsE, List.length_cons, cellsE_len l]; omega
theorem cellsE_app : ∀ a b : List DE, cellsE (a ++ b) = cellsE a ++ cellsE b
  | [], b => rfl
  | x :: a, b => by simp only [List.cons_append, cellsE, cellsE_app a b]
theorem cellsE_drop : ∀ (l : List DE) (k : Nat), (cellsE l).drop (k * 3) = cellsE (l.drop k)
  | l, 0 => by simp
  | [], k + 1 => by simp [cellsE]
  | x :: l, k + 1 => by
    rw [show (k + 1) * 3 = k * 3 + 1 + 1 + 1 by omega]
    simp only [cellsE, List.drop_succ_cons]
    exact cellsE_drop l k
theorem cellsE_take : ∀ (l : List DE) (k : Nat), (cellsE l).take (k * 3) = cellsE (l.take k)
  | l, 0 => by simp [cellsE]
  | [], k + 1 => by simp [cellsE]
  | x :: l, k + 1 => by
    rw [show (k + 1) * 3 = k * 3 + 1 + 1 + 1 by omega]
    simp only [cellsE, List.take_succ_cons]
    rw [cellsE_take l k]
theorem cellsE_at {l : List DE} {i : Nat} (h : i < l.length) : ((cellsE l).drop (i * 3)).take 3 = l[i].cells := by
  rw [cellsE_drop, List.drop_eq_getElem_cons h]
  rfl
theorem cellsE_set {l : List DE} {i : Nat} (h : i < l.length) (x : DE) : setL (cellsE l) (i * 3) x.cells = cellsE (l.set i x) := by
  induction l generalizing i with
  | nil => simp at h
  | cons y l ih =>
    cases i with
    | zero => rfl
    | succ i =>
      have := ih (i := i) (by simpa using h)
      rw [List.set_cons_succ]
      simp only [cellsE]
      rw [← this]
      apply List.ext_getElem?
      intro k
      have hlen : (cellsE l).length = l.length * 3 := cellsE_len l
      have hi : i < l.length := by simpa using h
      by_cases hk : k < 3
      · rw [setL_get _ _ _ _ (by omega)]
        match k, hk with
        | 0, _ => rfl
        | 1, _ => rfl
        | 2, _ => rfl
      · obtain ⟨m, rfl⟩ : ∃ m, k = m + 3 := ⟨k - 3, by omega⟩
        simp only [List.getElem?_cons_succ]
        by_cases h1 : m < i * 3 ∨ i * 3 + 3 ≤ m
        · rw [setL_get _ _ _ _ (by simp; omega), setL_get _ _ _ _ (by simp; omega)]
          simp only [List.getElem?_cons_succ]
        · obtain ⟨q, rfl⟩ : ∃ q, m = i * 3 + q := ⟨m - i * 3, by omega⟩
          rw [setL_in _ _ _ _ (by simp; omega) (by simp; omega), show i * 3 + q + 3 = (i + 1) * 3 + q by omega, setL_in _ _ _ _ (by simp; omega) (by simp; omega)]

def EPhi (es : List DE) : PW := fun M w => ∀ x ∈ es, Gv.rep M w x.cells x.d
instance instStableEPhi (es : List DE) : Stable (EPhi es) := ⟨fun hs h x hx => Gv.stable hs (h x hx)⟩

theorem elems_ex {M : List Nat} {w : World} : ∀ {l : List DeltaD} {cs : List Value}, Elems M w cs l → ∃ es : List DE, cs = cellsE es ∧ es.map DE.d = l := by
  intro l
  induction l with
  | nil =>
    intro cs h
    have := h.1
    simp at this
    exact ⟨[], by rw [this]; rfl, rfl⟩
  | cons x l ih =>
    intro cs h
    have hl := h.1
    rw [show (Gv.ty DeltaD).size = 3 from rfl] at hl
    have h0 := h.2 0 (by simp)
    rw [show (Gv.ty DeltaD).size = 3 from rfl, Nat.zero_mul, List.drop_zero] at h0
    obtain ⟨p, c, e, _⟩ := delta_cells h0
    have hr : Elems M w (cs.drop 3) l := by
      refine ⟨by rw [List.length_drop, hl, show (Gv.ty DeltaD).size = 3 from rfl]; simp; omega, fun j hj => ?_⟩
      have := h.2 (j + 1) (by simp; omega)
      rw [show (Gv.ty DeltaD).size = 3 from rfl] at this ⊢
      rw [List.drop_drop, show 3 + j * 3 = (j + 1) * 3 by omega]
      exact this
    obtain ⟨es, h1, h2⟩ := ih hr
    refine ⟨⟨x, p, c⟩ :: es, ?_, by simp [h2]⟩
    rw [← List.take_append_drop 3 cs]
    have e' : cs.take 3 = x.cells p c := e
    rw [e', h1]
    rfl

theorem elems_e {M : List Nat} {w : World} {es : List DE} (h : Elems M w (cellsE es) (es.map DE.d)) : EPhi es M w := by
  intro x hx
  obtain ⟨i, hi, rfl⟩ := List.getElem_of_mem hx
  have := h.2 i (by simpa using hi)
  rw [show (Gv.ty DeltaD).size = 3 from rfl, cellsE_at hi] at this
  simpa using this

theorem e_elems {M : List Nat} {w : World} {es : List DE} (h : EPhi es M w) : Elems M w (cellsE es) (es.map DE.d) := by
  refine ⟨by rw [cellsE_len]; simp [show (Gv.ty DeltaD).size = 3 from rfl], fun j hj => ?_⟩
  have hj : j < es.length := by simpa using hj
  rw [show (Gv.ty DeltaD).size = 3 from rfl, cellsE_at hj]
  have := h _ (List.getElem_mem hj)
  simpa using this

end Go.Proofs.YtbkpfhhhbhaecaaGreatDoor
end

section
set_option linter.unusedVariables false
set_option linter.unusedSimpArgs false
namespace Go.Proofs.YtbkpfhhhbhaecaaGreatDoor
open Go.Vc


abbrev bufE (p : Option Addr) (cap : Nat) (es : List DE) : Own := .buf p es.length cap (cellsE es) 73 3

theorem e_ptr {W w : World} {S : List Own} {Φ : PW} {p : Option Addr} {cap : Nat} {es : List DE} (cx : Ctx W w (bufE p cap es :: S) Φ) (h : 0 < es.length) : ∃ g, p = some ⟨g, 0, none⟩ := by
  obtain ⟨g, hg, _⟩ := cx.bufCell 0 rfl (by rw [cellsE_len]; omega)
  exact ⟨g, hg⟩

theorem e_row {W w : World} {S : List Own} {Φ : PW} {g cap : Nat} {es : List DE} (cx : Ctx W w (bufE (some ⟨g, 0, none⟩) cap es :: S) Φ) {i : Nat} {X : DE} (hX : es[i]? = some X) : RowAt w g (i * 3) X.cells := by
  obtain ⟨hi, rfl⟩ := List.getElem?_eq_some_iff.1 hX
  exact cx.bufRow 0 rfl rfl (rows_of (cellsE_at hi))

theorem e_can {W w : World} {S : List Own} {Φ : PW} {g cap : Nat} {es : List DE} (cx : Ctx W w (bufE (some ⟨g, 0, none⟩) cap es :: S) Φ) {i : Nat} (hi : i < es.length) : CanWrite w g (i * 3) 3 :=
  cx.bufCan 0 rfl rfl (by rw [cellsE_len]; omega)

theorem e_put {W w w' : World} {S : List Own} {Φ : PW} [Stable Φ] {g cap : Nat} {es : List DE} (cx : Ctx W w (bufE (some ⟨g, 0, none⟩) cap es :: S) Φ) {i : Nat} (hi : i < es.length) (x : DE) (e : w' = w.setCells g (i * 3) x.cells) :
    Ctx W w' (bufE (some ⟨g, 0, none⟩) cap (es.set i x) :: S) Φ := by
  have h := cx.bufPuts 0 rfl rfl (by rw [cellsE_len]; omega) (by rw [cellsE_len]; simp only [List.length_cons, List.length_nil]; omega) e
  rw [cellsE_set hi] at h
  have hl : (es.set i x).length = es.length := by simp
  unfold bufE
  rw [hl]
  exact h

theorem swap_mid (u x v y z : List DE) (i : Nat) (hx : i < x.length) (hy : i < y.length) (hxy : x.length = y.length) :
    swp (u ++ (y.take i ++ x.drop i) ++ v ++ (x.take i ++ y.drop i) ++ z) (u.length + i) (u.length + x.length + v.length + i) = u ++ (y.take (i + 1) ++ x.drop (i + 1)) ++ v ++ (x.take (i + 1) ++ y.drop (i + 1)) ++ z := by
  have h := swp_far (u ++ y.take i) x[i] (x.drop (i + 1) ++ v ++ x.take i) y[i] (y.drop (i + 1) ++ z)
  have e1 : u ++ (y.take i ++ x.drop i) ++ v ++ (x.take i ++ y.drop i) ++ z = (u ++ y.take i) ++ x[i] :: ((x.drop (i + 1) ++ v ++ x.take i) ++ y[i] :: (y.drop (i + 1) ++ z)) := by
    rw [List.drop_eq_getElem_cons hx, List.drop_eq_getElem_cons hy]
    simp only [List.append_assoc, List.cons_append]
  have e2 : u ++ (y.take (i + 1) ++ x.drop (i + 1)) ++ v ++ (x.take (i + 1) ++ y.drop (i + 1)) ++ z = (u ++ y.take i) ++ y[i] :: ((x.drop (i + 1) ++ v ++ x.take i) ++ x[i] :: (y.drop (i + 1) ++ z)) := by
    rw [List.take_succ_eq_append_getElem hx, List.take_succ_eq_append_getElem hy]
    simp only [List.append_assoc, List.cons_append, List.nil_append]
  have e3 : (u ++ y.take i).length = u.length + i := by simp; omega
  have e4 : (u ++ y.take i).length + 1 + (x.drop (i + 1) ++ v ++ x.take i).length = u.length + x.length + v.length + i := by simp; omega
  rw [e4, e3] at h
  rw [e1, e2]
  exact h

theorem e_swap {W w : World} {S : List Own} {Φ : PW} [Stable Φ] {g cap : Nat} {es : List DE} {i j : Nat} {X Y : DE} (hX : es[i]? = some X) (hY : es[j]? = some Y) {w1 : World} (cx : Ctx W w (bufE (some ⟨g, 0, none⟩) cap es :: S) Φ) (e : w1 = w.setCells g (i * 3) Y.cells) :
    Ctx W w1 (bufE (some ⟨g, 0, none⟩) cap (es.set i Y) :: S) Φ := by
  obtain ⟨hi, rfl⟩ := List.getElem?_eq_some_iff.1 hX
  exact e_put cx hi _ e
theorem e_swap2 {W w2 w3 : World} {S : List Own} {Φ : PW} [Stable Φ] {g cap : Nat} {es : List DE} {i j : Nat} {X Y : DE} (hX : es[i]? = some X) (hY : es[j]? = some Y) (cx : Ctx W w2 (bufE (some ⟨g, 0, none⟩) cap (es.set i Y) :: S) Φ) (e : w3 = w2.setCells g (j * 3) X.cells) :
    Ctx W w3 (bufE (some ⟨g, 0, none⟩) cap (swp es i j) :: S) Φ := by
  obtain ⟨hi, rfl⟩ := List.getElem?_eq_some_iff.1 hX
  obtain ⟨hj, rfl⟩ := List.getElem?_eq_some_iff.1 hY
  rw [swp_eq hi hj]
  exact e_put cx (by simpa using hj) _ e

set_option maxHeartbeats 1000000 in
theorem swapRange_use {W w : World} {S : List Own} {Φ : PW} [Stable Φ] {p : Option Addr} {cap N : Nat} {f : FuncId} {cp : Array Value} (u x v y z : List DE) (hxy : x.length = y.length) (cx : Ctx W w (bufE p cap (u ++ x ++ v ++ y ++ z) :: S) Φ) (hN : N = (u ++ x ++ v ++ y ++ z).length)
    (hlen : (u ++ x ++ v ++ y ++ z).length ≤ 100000000) {a b n : Int} (ha : a = u.length) (hb : b = u.length + x.length + v.length) (hn : n = x.length) {K : Ending → World → Prop}
    (hK : ∀ w', Ctx W w' (bufE p cap (u ++ y ++ v ++ x ++ z) :: S) Φ → K (.returned (.tuple #[])) w') : Calls Tryz.prog F.slices_swapRangeCmpFunc_api_Delta #[.slice p N cap, .int .i64 a, .int .i64 b, .int .i64 n, .func (.func f) #[] cp] w K := by
  subst hN ha hb hn
  have hl : (u ++ x ++ v ++ y ++ z).length = u.length + x.length + v.length + x.length + z.length := by simp; omega
  refine (Bslices_swapRangeCmpFunc_api_Delta_run p (u ++ x ++ v ++ y ++ z).length cap u.length ((u.length : Int) + x.length + v.length) x.length f cp (J := fun u w' => K (.returned u) w') cx ?_).mono fun e w' ⟨v, he, hj⟩ => by rw [he]; exact hj
  obtain ⟨E, hE⟩ : ∃ E : Nat → List DE, ∀ i, E i = u ++ (y.take i ++ x.drop i) ++ v ++ (x.take i ++ y.drop i) ++ z := ⟨_, fun _ => rfl⟩
  have hEl : ∀ i, i ≤ x.length → (E i).length = u.length + x.length + v.length + x.length + z.length := fun i hi => by rw [hE]; simp; omega
  have h0 : E 0 = u ++ x ++ v ++ y ++ z := by rw [hE]; simp
  have hfin : E x.length = u ++ y ++ v ++ x ++ z := by rw [hE]; simp [hxy, List.take_of_length_le, List.drop_of_length_le]
  refine exI_mk (fun iI R' Φ' k => ∃ i : Nat, iI = i ∧ i ≤ x.length ∧ R' = bufE p cap (E i) :: S ∧ Φ' = Φ ∧ k = x.length - i) ⟨⟨_, Φ, _, inferInstance, fun w G cx => by rw [h0]; exact cx, 0, rfl, Nat.zero_le _, rfl, rfl, rfl⟩, ?_⟩
  have hp : 0 < x.length → ∃ g, p = some ⟨g, 0, none⟩ := fun h => e_ptr cx (by omega)
  clear cx
  rintro iI R1 Φ1 k _ ⟨i, rfl, hi, rfl, rfl, rfl⟩
  refine Br.intro (fun hlt => ?_) (fun hge => fun w G cx => ?_)
  · have hlt : i < x.length := by have := of_decide_eq_true hlt; omega
    have hEi := hEl i (by omega)
    have hE1 : swp (E i) (u.length + i) (u.length + x.length + v.length + i) = E (i + 1) := by rw [hE, hE]; exact swap_mid u x v y z i hlt (by omega) hxy
    generalize E i = es at hEi hE1
    obtain ⟨X, hX⟩ : ∃ X, es[u.length + i]? = some X := ⟨_, List.getElem?_eq_getElem (by omega)⟩
    obtain ⟨Y, hY⟩ : ∃ Y, es[u.length + x.length + v.length + i]? = some Y := ⟨_, List.getElem?_eq_getElem (by omega)⟩
    have na : ((u.length : Int) + i).toNat = u.length + i := by omega
    have nb : ((u.length : Int) + x.length + v.length + i).toNat = u.length + x.length + v.length + i := by omega
    obtain ⟨g, rfl⟩ := hp (by omega)
    refine ⟨[], fun _ _ => True, inferInstance, fun w G cx => (cx.weak fun _ _ _ => trivial).right, by unfold I64; omega, by unfold I64; omega, by unfold I64; omega, by unfold I64; omega, by omega, ptrK_intro g 0 rfl ⟨by omega, ptrK_intro g 0 rfl fun w G cx => ⟨Y.d.time, Y.p, Y.d.row.length, Y.c, Y.d.n, by rw [Nat.zero_add, nb]; exact e_row cx hY, fun w G cx => ⟨X.d.time, X.p, X.d.row.length, X.c, X.d.n, by rw [Nat.zero_add, na]; exact e_row cx hX, by omega, ptrK_intro g 0 rfl fun w G cx => ⟨by rw [Nat.zero_add, na]; exact e_can cx (by omega), fun w' hw' => ?_⟩⟩⟩⟩⟩
    rw [Nat.zero_add, na] at hw'
    refine ⟨bufE (some ⟨g, 0, none⟩) cap (es.set (u.length + i) Y) :: S, Φ1, inferInstance, e_swap hX hY cx hw', fun w G cx => (cx.weak fun _ _ _ => trivial).right, by omega, ptrK_intro g 0 rfl fun w G cx => ⟨by rw [Nat.zero_add, nb]; exact e_can cx (by rw [List.length_set]; omega), fun w' hw' => ?_⟩⟩
    rw [Nat.zero_add, nb] at hw'
    have cx2 := e_swap2 hX hY cx hw'
    rw [hE1] at cx2
    exact ⟨bufE (some ⟨g, 0, none⟩) cap (E (i + 1)) :: S, Φ1, inferInstance, cx2, fun w G cx => (cx.weak fun _ _ _ => trivial).right, by unfold I64; omega, _, Φ1, x.length - (i + 1), inferInstance, fun w G cx => cx, ⟨i + 1, by omega, by omega, rfl, rfl, rfl⟩, by omega⟩
  · have hge : i = x.length := by have := of_decide_eq_false hge; omega
    subst hge
    rw [hfin] at cx
    exact hK w cx.left

end Go.Proofs.YtbkpfhhhbhaecaaGreatDoor
end

section
set_option linter.unusedVariables false
set_option linter.unusedSimpArgs false
namespace Go.Proofs.YtbkpfhhhbhaecaaGreatDoor
open Go.Vc


set_option maxHeartbeats 1000000 in
theorem rotate_use {W w : World} {S : List Own} {Φ : PW} [Stable Φ] {p : Option Addr} {cap N : Nat} {f : FuncId} {cp : Array Value} (u x y z : List DE) (hx : 0 < x.length) (hy : 0 < y.length) (cx : Ctx W w (bufE p cap (u ++ x ++ y ++ z) :: S) Φ) (hN : N = (u ++ x ++ y ++ z).length)
    (hlen : (u ++ x ++ y ++ z).length ≤ 100000000) {a m b : Int} (ha : a = u.length) (hm : m = u.length + x.length) (hb : b = u.length + x.length + y.length) {K : Ending → World → Prop}
    (hK : ∀ w', Ctx W w' (bufE p cap (u ++ y ++ x ++ z) :: S) Φ → K (.returned (.tuple #[])) w') : Calls Tryz.prog F.slices_rotateCmpFunc_api_Delta #[.slice p N cap, .int .i64 a, .int .i64 m, .int .i64 b, .func (.func f) #[] cp] w K := by
  subst hN ha hm hb
  have hl : (u ++ x ++ y ++ z).length = u.length + x.length + y.length + z.length := by simp; omega
  refine (Bslices_rotateCmpFunc_api_Delta_run p (u ++ x ++ y ++ z).length cap u.length ((u.length : Int) + x.length) ((u.length : Int) + x.length + y.length) f cp (J := fun u w' => K (.returned u) w') cx ?_).mono fun e w' ⟨v, he, hj⟩ => by rw [he]; exact hj
  refine ⟨by unfold I64; omega, by unfold I64; omega, ?_⟩
  refine exI_mk (fun i j R' Φ' k => ∃ u' X Y z' : List DE, i = X.length ∧ j = Y.length ∧ 0 < X.length ∧ 0 < Y.length ∧ u'.length + X.length = u.length + x.length ∧ u' ++ Y ++ X ++ z' = u ++ y ++ x ++ z ∧ R' = bufE p cap (u' ++ X ++ Y ++ z') :: S ∧ Φ' = Φ ∧ k = X.length + Y.length)
    ⟨⟨_, Φ, _, inferInstance, fun w G cx => cx, u, x, y, z, by omega, by omega, hx, hy, rfl, rfl, rfl, rfl, rfl⟩, ?_⟩
  clear cx
  rintro _ _ R1 Φ1 k _ ⟨u', X, Y, z', rfl, rfl, h1, h2, h3, h4, rfl, rfl, rfl⟩
  have hl2 : u'.length + Y.length + X.length + z'.length = u.length + x.length + y.length + z.length := by
    have := congrArg List.length h4
    simp only [List.length_append] at this
    omega
  have hN : (u ++ x ++ y ++ z).length = (u' ++ X ++ Y ++ z').length := by simp only [List.length_append]; omega
  have hlen' : (u' ++ X ++ Y ++ z').length ≤ 100000000 := by rw [← hN]; exact hlen
  refine Br.intro (fun hne => Br.intro (fun hgt => ?_) (fun hle => ?_)) (fun heq => ?_)
  · have hgt := of_decide_eq_true hgt
    have hgt : Y.length < X.length := by omega
    have e1 : X = X.take Y.length ++ X.drop Y.length := (List.take_append_drop _ _).symm
    obtain ⟨A, hA⟩ : ∃ A, X.take Y.length = A := ⟨_, rfl⟩
    obtain ⟨B, hB⟩ : ∃ B, X.drop Y.length = B := ⟨_, rfl⟩
    have hAl : A.length = Y.length := by rw [← hA, List.length_take]; omega
    have hBl : B.length = X.length - Y.length := by rw [← hB, List.length_drop]
    rw [hA, hB] at e1
    refine ⟨by unfold I64; omega, fun w G cx => ?_⟩
    refine swapRange_use (S := S ++ G) u' A B Y z' hAl (by rw [e1] at cx; exact cx.re (by simp)) (by rw [hN, e1]; simp) (by rw [e1] at hlen'; simpa using hlen') (by omega) (by omega) (by omega) fun w cx => ⟨rfl, bufE p cap ((u' ++ Y) ++ B ++ A ++ z') :: S, Φ1, inferInstance, cx.re (by simp), by unfold I64; omega, _, Φ1, B.length + A.length, inferInstance, fun w G cx => cx, ⟨u' ++ Y, B, A, z', by omega, by omega, by omega, by omega, by simp only [List.length_append]; omega, by rw [← h4, e1]; simp, rfl, rfl, rfl⟩, by omega⟩
  · have hle := of_decide_eq_false hle
    have hne := of_decide_eq_true hne
    have hgt : X.length < Y.length := by omega
    have e1 : Y = Y.take (Y.length - X.length) ++ Y.drop (Y.length - X.length) := (List.take_append_drop _ _).symm
    obtain ⟨A, hA⟩ : ∃ A, Y.take (Y.length - X.length) = A := ⟨_, rfl⟩
    obtain ⟨B, hB⟩ : ∃ B, Y.drop (Y.length - X.length) = B := ⟨_, rfl⟩
    have hAl : A.length = Y.length - X.length := by rw [← hA, List.length_take]; omega
    have hBl : B.length = X.length := by rw [← hB, List.length_drop]; omega
    rw [hA, hB] at e1
    refine ⟨by unfold I64; omega, by unfold I64; omega, by unfold I64; omega, fun w G cx => ?_⟩
    refine swapRange_use (S := S ++ G) u' X A B z' hBl.symm (by rw [e1] at cx; exact cx.re (by simp)) (by rw [hN, e1]; simp) (by rw [e1] at hlen'; simpa using hlen') (by omega) (by omega) (by omega) fun w cx => ⟨rfl, bufE p cap (u' ++ B ++ A ++ (X ++ z')) :: S, Φ1, inferInstance, cx.re (by simp), by unfold I64; omega, _, Φ1, B.length + A.length, inferInstance, fun w G cx => cx, ⟨u', B, A, X ++ z', by omega, by omega, by omega, by omega, by omega, by rw [← h4, e1]; simp, rfl, rfl, rfl⟩, by omega⟩
  · have heq := of_decide_eq_false heq
    refine ⟨by unfold I64; omega, fun w G cx => ?_⟩
    refine swapRange_use (S := S ++ G) u' X [] Y z' (by omega) (cx.re (by simp)) (by rw [hN]; simp) (by simpa using hlen') (by omega) (by simp only [List.length_nil]; omega) (by omega) fun w cx => ⟨rfl, bufE p cap (u' ++ Y ++ X ++ z') :: S, Φ1, inferInstance, cx.re (by simp), fun w G cx => hK w ?_⟩
    rw [h4] at cx
    exact cx.left

abbrev cmpE (x y : DE) : Int := cmpD x.d y.d
abbrev leE (x y : DE) : Prop := cmpD x.d y.d ≤ 0
theorem ordE : Ord leE := by
  refine ⟨fun x y => ?_, fun x y z h1 h2 => ?_⟩
  · unfold leE
    rw [cmpD_key, cmpD_key]
    rcases cmpK_cmp.tri x.d.key y.d.key with h | h | h
    · exact .inl (by omega)
    · exact .inl (by rw [h, cmpK_cmp.refl]; omega)
    · exact .inr (by omega)
  · unfold leE at *
    rw [cmpD_key] at *
    rcases Int.lt_or_eq_of_le h1 with a | a
    · rcases Int.lt_or_eq_of_le h2 with b | b
      · have := cmpK_cmp.trans _ _ _ a b; omega
      · rw [← (cmpK_cmp.eq _ _).1 b]; omega
    · rw [(cmpK_cmp.eq _ _).1 a]; exact h2
theorem leE_of_lt {x y : DE} (h : cmpD x.d y.d < 0) : leE x y := by unfold leE; omega
theorem leE_not {x y : DE} (h : ¬ cmpD x.d y.d < 0) : leE y x := by
  unfold leE
  rw [cmpD_key] at *
  rcases cmpK_cmp.tri x.d.key y.d.key with h1 | h1 | h1
  · omega
  · rw [h1, cmpK_cmp.refl]; omega
  · omega

def CmpFn (Φ : PW) (f : FuncId) (cp : Array Value) (G : DE → Prop) : Prop := okFun Tryz.prog f = true ∧ ∀ x y : DE, G x → G y → GivesIn Φ Tryz.prog f (Array.mk (x.v :: y.v :: cp.toList)) (.int .i64 (cmpE x y))

set_option maxHeartbeats 2000000 in
theorem insertionSort_use {W w : World} {S : List Own} {Φ : PW} [Stable Φ] {p : Option Addr} {cap N : Nat} {f : FuncId} {cp : Array Value} {P : DE → Prop} (hf : CmpFn Φ f cp P) (u x z : List DE) (hP : ∀ e ∈ x, P e) (cx : Ctx W w (bufE p cap (u ++ x ++ z) :: S) Φ) (hN : N = (u ++ x ++ z).length)
    (hlen : (u ++ x ++ z).length ≤ 100000000) {a b : Int} (ha : a = u.length) (hb : b = u.length + x.length) {K : Ending → World → Prop}
    (hK : ∀ x' w', x'.Perm x → Asc leE x' → Ctx W w' (bufE p cap (u ++ x' ++ z) :: S) Φ → K (.returned (.tuple #[])) w') : Calls Tryz.prog F.slices_insertionSortCmpFunc_api_Delta #[.slice p N cap, .int .i64 a, .int .i64 b, .func (.func f) #[] cp] w K := by
  subst hN ha hb
  have hl : (u ++ x ++ z).length = u.length + x.length + z.length := by simp; omega
  refine (Bslices_insertionSortCmpFunc_api_Delta_run p (u ++ x ++ z).length cap u.length ((u.length : Int) + x.length) f cp (J := fun u w' => K (.returned u) w') cx ?_).mono fun e w' ⟨v, he, hj⟩ => by rw [he]; exact hj
  have hp : 0 < x.length → ∃ g, p = some ⟨g, 0, none⟩ := fun h => e_ptr cx (by omega)
  refine ⟨by unfold I64; omega, ?_⟩
  refine exI_mk (fun i R' Φ' k => ∃ (s r : List DE), i = (u.length : Int) + max s.length 1 ∧ (s ++ r).Perm x ∧ Asc leE s ∧ (s.length = 0 → r = []) ∧ R' = bufE p cap (u ++ s ++ r ++ z) :: S ∧ Φ' = Φ ∧ k = r.length)
    ⟨⟨bufE p cap (u ++ x.take 1 ++ x.drop 1 ++ z) :: S, Φ, (x.drop 1).length, inferInstance, fun w G cx => cx.re (by rw [List.append_assoc u (x.take 1), List.take_append_drop]), x.take 1, x.drop 1, by rw [List.length_take]; omega, by rw [List.take_append_drop], ?_, fun h => ?_, rfl, rfl, rfl⟩, ?_⟩
  · cases x with
    | nil => simp
    | cons e x => simp
  · have : x = [] := by
      cases x with
      | nil => rfl
      | cons e x => simp at h
    rw [this]; rfl
  clear cx
  rintro _ R1 Φ1 k _ ⟨s, r, rfl, hperm, hasc, hnil, rfl, rfl, rfl⟩
  have hlp := hperm.length_eq
  rw [List.length_append] at hlp
  refine Br.intro (fun hlt => ?_) (fun hge => fun w G cx => ?_)
  · have hlt := of_decide_eq_true hlt
    have hs0 : 0 < s.length := by
      rcases Nat.eq_zero_or_pos s.length with h | h
      · have := hnil h; rw [this] at hlp; simp at hlp; omega
      · exact h
    obtain ⟨e, r, rfl⟩ : ∃ e r', r = e :: r' := by
      cases r with
      | nil => simp at hlp; omega
      | cons e r' => exact ⟨e, r', rfl⟩
    simp only [List.length_cons] at hlp
    obtain ⟨g, rfl⟩ := hp (by omega)
    have hPe : P e := hP e (hperm.mem_iff.1 (by simp))
    have hPs : ∀ y ∈ s, P y := fun y hy => hP y (hperm.mem_iff.1 (by simp [hy]))
    -- the element goes down
    refine exI_mk (fun j R' Φ' k => ∃ s1 s2 : List DE, j = (u.length : Int) + s1.length ∧ s = s1 ++ s2 ∧ (∀ y ∈ s2, leE e y) ∧ R' = bufE (some ⟨g, 0, none⟩) cap (u ++ s1 ++ e :: s2 ++ r ++ z) :: S ∧ Φ' = Φ1 ∧ k = s1.length)
      ⟨⟨_, Φ1, _, inferInstance, fun w G cx => cx.re (by simp), s, [], by omega, by simp, by simp, rfl, rfl, rfl⟩, ?_⟩
    rintro _ R2 Φ2 k _ ⟨s1, s2, rfl, rfl, hle, rfl, rfl, rfl⟩
    simp only [List.length_append] at hlp hlt hs0
    have hEl : (u ++ s1 ++ e :: s2 ++ r ++ z).length = u.length + s1.length + 1 + s2.length + r.length + z.length := by simp; omega
    have next : Asc leE (s1 ++ e :: s2) → ((u.length : Int) + max (s1 ++ s2).length 1 + 1 = (u.length : Int) + max (s1 ++ e :: s2).length 1) ∧ ((s1 ++ e :: s2) ++ r).Perm x := fun _ => by
      refine ⟨by simp only [List.length_append, List.length_cons]; omega, ?_⟩
      refine List.Perm.trans ?_ hperm
      simp only [List.append_assoc, List.cons_append]
      refine List.Perm.append_left _ ?_
      exact (List.perm_middle (l₁ := s2)).symm
    refine ⟨bufE (some ⟨g, 0, none⟩) cap (u ++ s1 ++ e :: s2 ++ r ++ z) :: S, Φ2, inferInstance, fun w G cx => cx, Br.intro (fun hj => ?_) (fun hj => ?_)⟩
    · have hj := of_decide_eq_true hj
      have hs1 : s1 ≠ [] := fun h => by rw [h] at hj; simp at hj
      obtain ⟨t, y, rfl⟩ : ∃ t y, s1 = t ++ [y] := ⟨s1.dropLast, s1.getLast hs1, (List.dropLast_concat_getLast hs1).symm⟩
      simp only [List.length_append, List.length_cons, List.length_nil] at hlp hlt
      clear hEl
      obtain ⟨E, hE⟩ : ∃ E, u ++ (t ++ [y]) ++ e :: s2 ++ r ++ z = E := ⟨_, rfl⟩
      have hE' : E = (u ++ t) ++ y :: e :: (s2 ++ r ++ z) := by rw [← hE]; simp
      have hX : E[u.length + t.length + 1]? = some e := by
        rw [hE', List.getElem?_append_right (by simp)]
        simp
      have hY : E[u.length + t.length]? = some y := by
        rw [hE', List.getElem?_append_right (by simp)]
        simp
      have hsw : swp E (u.length + t.length + 1) (u.length + t.length) = (u ++ t) ++ e :: y :: (s2 ++ r ++ z) := by
        have h1 := swp_next (u ++ t) y e (s2 ++ r ++ z)
        rw [← h1, hE', List.length_append]
        have hi : u.length + t.length < ((u ++ t) ++ y :: e :: (s2 ++ r ++ z)).length := by simp
        have hj' : u.length + t.length + 1 < ((u ++ t) ++ y :: e :: (s2 ++ r ++ z)).length := by simp; omega
        rw [swp_eq hj' hi, swp_eq hi hj', List.set_comm _ _ (by omega)]
      have hEl : E.length = u.length + t.length + 2 + s2.length + r.length + z.length := by rw [hE']; simp; omega
      rw [hE]
      have n1 : ((u.length : Int) + ((t ++ [y]).length : Nat)).toNat = u.length + t.length + 1 := by simp; omega
      have n2 : ((u.length : Int) + ((t ++ [y]).length : Nat) - 1).toNat = u.length + t.length := by simp; omega
      have nl : ((t ++ [y]).length : Int) = t.length + 1 := by simp
      have hcall := hf.2 e y hPe (hPs y (by simp))
      refine ⟨by omega, ptrK_intro g 0 rfl ⟨by unfold I64; omega, e.d.time, e.p, e.d.row.length, e.c, e.d.n, fun w G cx => ⟨_, e.p, _, e.c, _, by rw [Nat.zero_add, n1]; exact e_row cx hX, rfl⟩, by omega, ptrK_intro g 0 rfl ⟨y.d.time, y.p, y.d.row.length, y.c, y.d.n, fun w G cx => ⟨_, y.p, _, y.c, _, by rw [Nat.zero_add, n2]; exact e_row cx hY, rfl⟩, fun w G cx => ⟨hf.1, hcall.use cx fun w cx => ⟨_, rfl, bufE (some ⟨g, 0, none⟩) cap E :: S, Φ2, inferInstance, cx, Br.intro (fun hc => ?_) (fun hc => ?_)⟩⟩⟩⟩⟩
      · have hc := of_decide_eq_true hc
        refine ⟨[], fun _ _ => True, inferInstance, fun w G cx => (cx.weak fun _ _ _ => trivial).right, by unfold I64; omega, by unfold I64; omega, by omega, ptrK_intro g 0 rfl ⟨by omega, ptrK_intro g 0 rfl fun w G cx => ⟨e.d.time, e.p, e.d.row.length, e.c, e.d.n, by rw [Nat.zero_add, n1]; exact e_row cx hX, fun w G cx => ⟨y.d.time, y.p, y.d.row.length, y.c, y.d.n, by rw [Nat.zero_add, n2]; exact e_row cx hY, by omega, ptrK_intro g 0 rfl fun w G cx => ⟨by rw [Nat.zero_add, n1]; exact e_can cx (by omega), fun w' hw' => ?_⟩⟩⟩⟩⟩
        rw [Nat.zero_add, n1] at hw'
        refine ⟨bufE (some ⟨g, 0, none⟩) cap (E.set (u.length + t.length + 1) y) :: S, Φ2, inferInstance, e_swap hX hY cx hw', fun w G cx => (cx.weak fun _ _ _ => trivial).right, by omega, ptrK_intro g 0 rfl fun w G cx => ⟨by rw [Nat.zero_add, n2]; exact e_can cx (by rw [List.length_set]; omega), fun w' hw' => ?_⟩⟩
        rw [Nat.zero_add, n2] at hw'
        have cx2 := e_swap2 hX hY cx hw'
        rw [hsw] at cx2
        refine ⟨bufE (some ⟨g, 0, none⟩) cap ((u ++ t) ++ e :: y :: (s2 ++ r ++ z)) :: S, Φ2, inferInstance, cx2, fun w G cx => (cx.weak fun _ _ _ => trivial).right, by unfold I64; omega, bufE (some ⟨g, 0, none⟩) cap (u ++ t ++ e :: (y :: s2) ++ r ++ z) :: S, Φ2, t.length, inferInstance, fun w G cx => cx.re (by simp), ⟨t, y :: s2, by omega, by simp, fun q hq => ?_, rfl, rfl, rfl⟩, by omega⟩
        rcases List.mem_cons.1 hq with rfl | hq
        · exact leE_of_lt hc
        · exact hle q hq
      · have hc := of_decide_eq_false hc
        have hye := leE_not hc
        have has : Asc leE ((t ++ [y]) ++ e :: s2) := by
          refine asc_put hasc (fun q hq => ?_) hle
          have h1 := (List.pairwise_append.1 hasc).1
          rcases List.mem_append.1 hq with hq | hq
          · exact ordE.trans _ _ _ ((List.pairwise_append.1 h1).2.2 q hq y (by simp)) hye
          · rw [List.mem_singleton.1 hq]; exact hye
        obtain ⟨q1, q2⟩ := next has
        refine ⟨by unfold I64; simp only [List.length_append, List.length_cons, List.length_nil]; omega, bufE (some ⟨g, 0, none⟩) cap (u ++ (t ++ [y] ++ e :: s2) ++ r ++ z) :: S, Φ2, r.length, inferInstance, fun w G cx => cx.re (by rw [← hE]; simp), ⟨t ++ [y] ++ e :: s2, r, q1, q2, has, fun h => by simp at h, rfl, rfl, rfl⟩, by simp⟩
    · have hj := of_decide_eq_false hj
      have hs1 : s1 = [] := List.eq_nil_of_length_eq_zero (by omega)
      subst hs1
      have has : Asc leE ([] ++ e :: s2) := asc_put hasc (by simp) hle
      obtain ⟨q1, q2⟩ := next has
      exact ⟨by unfold I64; simp only [List.length_append]; omega, bufE (some ⟨g, 0, none⟩) cap (u ++ ([] ++ e :: s2) ++ r ++ z) :: S, Φ2, r.length, inferInstance, fun w G cx => cx.re (by simp), ⟨[] ++ e :: s2, r, q1, q2, has, fun h => by simp at h, rfl, rfl, rfl⟩, by simp⟩
  · have hge := of_decide_eq_false hge
    have hr : r = [] := by
      rcases Nat.eq_zero_or_pos s.length with h | h
      · exact hnil h
      · exact List.eq_nil_of_length_eq_zero (by omega)
    subst hr
    rw [List.append_nil] at hperm
    exact hK s w hperm hasc (cx.left.re (by simp))

end Go.Proofs.YtbkpfhhhbhaecaaGreatDoor
end

section
set_option linter.unusedVariables false
set_option linter.unusedSimpArgs false
namespace Go.Proofs.YtbkpfhhhbhaecaaGreatDoor
open Go.Vc


theorem shr_run (k : Nat) (h : k < 9223372036854775808) (w : World) : Sem.run Tryz.prog (binOp BinOp.shr 65 (.int .u64 (IntKind.u64.wrap (k : Int))) (.int .u64 1)) w = .ok (.int .u64 ((k / 2 : Nat) : Int)) w := by
  have e : IntKind.u64.wrap (k : Int) = k := by simp [IntKind.wrap, IntKind.signed, IntKind.bits]; omega
  rw [e]
  show Sem.run Tryz.prog (Op.shift .shr .u64 (k : Int) .u64 1) w = _
  unfold Op.shift
  simp [Sem.run_pure]
  show (k : Int).fdiv 2 = _
  rw [Int.fdiv_eq_ediv_of_nonneg _ (by decide)]

theorem wrap_nat {k : Nat} (h : k ≤ 1000000000) : IntKind.i64.wrap (k : Int) = k := i64_wrap (by unfold I64; omega)

theorem get_at (a : List DE) (e : DE) (b : List DE) : (a ++ e :: b)[a.length]? = some e := by
  rw [List.getElem?_append_right (Nat.le_refl _)]; simp

theorem get_at2 (a : List DE) (e q : DE) (b : List DE) : (a ++ e :: q :: b)[a.length + 1]? = some q := by
  rw [List.getElem?_append_right (by omega)]; simp

theorem get_mid {u x y z : List DE} {i : Nat} (h : i < y.length) : (u ++ x ++ y ++ z)[u.length + x.length + i]? = some y[i] := by
  rw [List.getElem?_append_left (by simp; omega), List.getElem?_append_right (by simp), List.length_append, show u.length + x.length + i - (u.length + x.length) = i by omega, List.getElem?_eq_getElem h]
theorem get_fst {u x y z : List DE} {i : Nat} (h : i < x.length) : (u ++ x ++ y ++ z)[u.length + i]? = some x[i] := by
  rw [List.getElem?_append_left (by simp; omega), List.getElem?_append_left (by simp; omega), List.getElem?_append_right (by simp), show u.length + i - u.length = i by omega, List.getElem?_eq_getElem h]

theorem nb_swap (a : List DE) (x y : DE) (b : List DE) {i j : Nat} (hi : i = a.length) (hj : j = a.length + 1) : swp (a ++ x :: y :: b) i j = a ++ y :: x :: b ∧ swp (a ++ x :: y :: b) j i = a ++ y :: x :: b := by
  subst hi hj
  refine ⟨swp_next a x y b, ?_⟩
  have hi : a.length < (a ++ x :: y :: b).length := by simp
  have hj : a.length + 1 < (a ++ x :: y :: b).length := by simp
  rw [← swp_next a x y b, swp_eq hj hi, swp_eq hi hj, List.set_comm _ _ (by omega)]

set_option maxHeartbeats 2000000 in
theorem sym_one {W : World} {S : List Own} {Φ : PW} [Stable Φ] {p : Option Addr} {cap N : Nat} {f : FuncId} {cp : Array Value} {P : DE → Prop} (hf : CmpFn Φ f cp P) (u : List DE) (e : DE) (y z : List DE) (hy : 0 < y.length) (hPe : P e) (hPy : ∀ q ∈ y, P q) (hay : Asc leE y)
    (hN : N = (u ++ [e] ++ y ++ z).length) (hlen : (u ++ [e] ++ y ++ z).length ≤ 100000000) {a m b : Int} (ha : a = u.length) (hm : m = (u.length : Int) + 1) (hb : b = (u.length : Int) + 1 + y.length) {K : Ending → World → Prop}
    (hK : ∀ r w', r.Perm (e :: y) → Asc leE r → Ctx W w' (bufE p cap (u ++ r ++ z) :: S) Φ → K (.returned (.tuple #[])) w') {w : World} (cx : Ctx W w (bufE p cap (u ++ [e] ++ y ++ z) :: S) Φ) :
    Calls Tryz.prog F.slices_symMergeCmpFunc_api_Delta #[.slice p N cap, .int .i64 a, .int .i64 m, .int .i64 b, .func (.func f) #[] cp] w K := by
  subst hN ha hm hb
  have hl : (u ++ [e] ++ y ++ z).length = u.length + 1 + y.length + z.length := by simp; omega
  refine (Bslices_symMergeCmpFunc_api_Delta_run p (u ++ [e] ++ y ++ z).length cap u.length ((u.length : Int) + 1) ((u.length : Int) + 1 + y.length) f cp (J := fun u w' => K (.returned u) w') cx ?_).mono fun e w' ⟨v, he, hj⟩ => by rw [he]; exact hj
  obtain ⟨g, rfl⟩ := e_ptr cx (by omega)
  refine ⟨by unfold I64; omega, Br.intro (fun _ => ?_) (fun h => by have := of_decide_eq_false h; omega)⟩
  refine exI_mk (fun i j R' Φ' k => ∃ α β : Nat, i = (u.length : Int) + 1 + α ∧ j = (u.length : Int) + 1 + β ∧ α ≤ β ∧ β ≤ y.length ∧ (∀ q ∈ y.take α, leE q e) ∧ (∀ q ∈ y.drop β, leE e q) ∧ R' = bufE (some ⟨g, 0, none⟩) cap (u ++ [e] ++ y ++ z) :: S ∧ Φ' = Φ ∧ k = β - α)
    ⟨⟨_, Φ, _, inferInstance, fun w G cx => cx, 0, y.length, by omega, by omega, by omega, by omega, by simp, by simp, rfl, rfl, rfl⟩, ?_⟩
  clear cx
  rintro _ _ R1 Φ1 k _ ⟨α, β, rfl, rfl, h1, h2, h3, h4, rfl, rfl, rfl⟩
  refine Br.intro (fun hlt => ?_) (fun hge => ?_)
  · have hlt := of_decide_eq_true hlt
    have hαβ : α < β := by omega
    obtain ⟨γ, hγ⟩ : ∃ γ, (α + β) / 2 = γ := ⟨_, rfl⟩
    have hγ1 : α ≤ γ := by omega
    have hγ2 : γ < β := by omega
    have hsum : ((u.length : Int) + 1 + α + ((u.length : Int) + 1 + β)) = ((2 * (u.length + 1) + (α + β) : Nat) : Int) := by omega
    have hhalf : (2 * (u.length + 1) + (α + β)) / 2 = u.length + 1 + γ := by omega
    have hX : (u ++ [e] ++ y ++ z)[u.length + 1 + γ]? = some y[γ] := get_mid (x := [e]) (by omega)
    have hE : (u ++ [e] ++ y ++ z)[u.length]? = some e := by simp
    refine ⟨by unfold I64; omega, ((u.length + 1 + γ : Nat) : Int), fun w => by rw [hsum, ← hhalf]; exact shr_run _ (by omega) w, ?_⟩
    rw [wrap_nat (by omega)]
    refine ⟨bufE (some ⟨g, 0, none⟩) cap (u ++ [e] ++ y ++ z) :: S, Φ1, inferInstance, fun w G cx => cx, by omega, ptrK_intro g 0 rfl ⟨by omega, ptrK_intro g 0 rfl ⟨y[γ].d.time, y[γ].p, y[γ].d.row.length, y[γ].c, y[γ].d.n, fun w G cx => ⟨_, y[γ].p, _, y[γ].c, _, by rw [Nat.zero_add, Int.toNat_natCast]; exact e_row cx hX, rfl⟩, e.d.time, e.p, e.d.row.length, e.c, e.d.n, fun w G cx => ⟨_, e.p, _, e.c, _, by rw [Nat.zero_add, Int.toNat_natCast]; exact e_row cx hE, rfl⟩, fun w G cx => ⟨hf.1, (hf.2 y[γ] e (hPy _ (List.getElem_mem _)) hPe).use cx fun w cx => ⟨_, rfl, bufE (some ⟨g, 0, none⟩) cap (u ++ [e] ++ y ++ z) :: S, Φ1, inferInstance, cx, Br.intro (fun hc => ?_) (fun hc => ?_)⟩⟩⟩⟩⟩
    · have hc := leE_of_lt (of_decide_eq_true hc)
      refine ⟨by unfold I64; omega, _, Φ1, β - (γ + 1), inferInstance, fun w G cx => cx, ⟨γ + 1, β, by omega, by omega, by omega, h2, fun q hq => ?_, h4, rfl, rfl, rfl⟩, by omega⟩
      obtain ⟨i, hi, rfl⟩ := List.getElem_of_mem hq
      rw [List.length_take] at hi
      rw [List.getElem_take]
      exact ordE.trans _ _ _ (asc_le ordE hay (i := i) (j := γ) (by omega) (by omega)) hc
    · have hc := leE_not (of_decide_eq_false hc)
      refine ⟨_, Φ1, γ - α, inferInstance, fun w G cx => cx, ⟨α, γ, by omega, by omega, by omega, by omega, h3, fun q hq => ?_, rfl, rfl, rfl⟩, by omega⟩
      obtain ⟨i, hi, rfl⟩ := List.getElem_of_mem hq
      rw [List.length_drop] at hi
      rw [List.getElem_drop]
      exact ordE.trans _ _ _ hc (asc_le ordE hay (i := γ) (j := γ + i) (by omega) (by omega))
  · have hge := of_decide_eq_false hge
    have hαβ : α = β := by omega
    subst hαβ
    refine exI_mk (fun k R' Φ' kk => ∃ κ : Nat, k = (u.length : Int) + κ ∧ κ ≤ α ∧ R' = bufE (some ⟨g, 0, none⟩) cap (u ++ y.take κ ++ e :: y.drop κ ++ z) :: S ∧ Φ' = Φ1 ∧ kk = α - κ) ⟨⟨_, Φ1, _, inferInstance, fun w G cx => cx, 0, by omega, by omega, by simp, rfl, rfl⟩, ?_⟩
    rintro _ R2 Φ2 kk _ ⟨κ, rfl, hκ, rfl, rfl, rfl⟩
    refine ⟨by unfold I64; omega, Br.intro (fun hlt => ?_) (fun hge => fun w G cx => ?_)⟩
    · have hlt := of_decide_eq_true hlt
      have hκ2 : κ < α := by omega
      have hκy : κ < y.length := by omega
      obtain ⟨E, hE⟩ : ∃ E, u ++ y.take κ ++ e :: y.drop κ ++ z = E := ⟨_, rfl⟩
      have hE' : E = (u ++ y.take κ) ++ e :: y[κ] :: (y.drop (κ + 1) ++ z) := by rw [← hE, List.drop_eq_getElem_cons hκy]; simp only [List.append_assoc, List.cons_append]
      have hEn : u ++ y.take (κ + 1) ++ e :: y.drop (κ + 1) ++ z = (u ++ y.take κ) ++ y[κ] :: e :: (y.drop (κ + 1) ++ z) := by rw [List.take_succ_eq_append_getElem hκy]; simp only [List.append_assoc, List.cons_append, List.nil_append]
      have hal : (u ++ y.take κ).length = u.length + κ := by simp; omega
      have hEl : E.length = u.length + 1 + y.length + z.length := by rw [hE']; simp; omega
      have hX : E[u.length + κ]? = some e := by rw [hE', ← hal]; exact get_at _ _ _
      have hY : E[u.length + κ + 1]? = some y[κ] := by
        have := get_at2 (u ++ y.take κ) e y[κ] (y.drop (κ + 1) ++ z)
        rw [hal] at this
        rw [hE']
        exact this
      have hsw := (nb_swap (u ++ y.take κ) e y[κ] (y.drop (κ + 1) ++ z) (i := u.length + κ) (j := u.length + κ + 1) hal.symm (by omega)).1
      rw [← hE', ← hEn] at hsw
      rw [hE]
      have n1 : ((u.length : Int) + κ).toNat = u.length + κ := by omega
      have n2 : ((u.length : Int) + κ + 1).toNat = u.length + κ + 1 := by omega
      generalize y[κ] = q at hX hY hE' hEn
      refine ⟨[], fun _ _ => True, inferInstance, fun w G cx => (cx.weak fun _ _ _ => trivial).right, by unfold I64; omega, by unfold I64; omega, by omega, ptrK_intro g 0 rfl ⟨by omega, ptrK_intro g 0 rfl fun w G cx => ⟨e.d.time, e.p, e.d.row.length, e.c, e.d.n, by rw [Nat.zero_add, n1]; exact e_row cx hX, fun w G cx => ⟨q.d.time, q.p, q.d.row.length, q.c, q.d.n, by rw [Nat.zero_add, n2]; exact e_row cx hY, by omega, ptrK_intro g 0 rfl fun w G cx => ⟨by rw [Nat.zero_add, n1]; exact e_can cx (by omega), fun w' hw' => ?_⟩⟩⟩⟩⟩
      rw [Nat.zero_add, n1] at hw'
      refine ⟨bufE (some ⟨g, 0, none⟩) cap (E.set (u.length + κ) q) :: S, Φ2, inferInstance, e_swap hX hY cx hw', fun w G cx => (cx.weak fun _ _ _ => trivial).right, by omega, ptrK_intro g 0 rfl fun w G cx => ⟨by rw [Nat.zero_add, n2]; exact e_can cx (by rw [List.length_set]; omega), fun w' hw' => ?_⟩⟩
      rw [Nat.zero_add, n2] at hw'
      have cx2 := e_swap2 hX hY cx hw'
      rw [hsw] at cx2
      exact ⟨bufE (some ⟨g, 0, none⟩) cap (u ++ y.take (κ + 1) ++ e :: y.drop (κ + 1) ++ z) :: S, Φ2, inferInstance, cx2, fun w G cx => (cx.weak fun _ _ _ => trivial).right, by unfold I64; omega, _, Φ2, α - (κ + 1), inferInstance, fun w G cx => cx, ⟨κ + 1, by omega, by omega, rfl, rfl, rfl⟩, by omega⟩
    · have hge := of_decide_eq_false hge
      have hκα : κ = α := by omega
      subst hκα
      refine hK (y.take κ ++ e :: y.drop κ) w ?_ (asc_put (by rw [List.take_append_drop]; exact hay) h3 h4) (cx.left.re (by simp))
      have h := List.perm_middle (a := e) (l₁ := y.take κ) (l₂ := y.drop κ)
      rw [List.take_append_drop] at h
      exact h

set_option maxHeartbeats 2000000 in
theorem sym_last {W : World} {S : List Own} {Φ : PW} [Stable Φ] {p : Option Addr} {cap N : Nat} {f : FuncId} {cp : Array Value} {P : DE → Prop} (hf : CmpFn Φ f cp P) (u x : List DE) (e : DE) (z : List DE) (hx : 2 ≤ x.length) (hPe : P e) (hPx : ∀ q ∈ x, P q) (hax : Asc leE x)
    (hN : N = (u ++ x ++ [e] ++ z).length) (hlen : (u ++ x ++ [e] ++ z).length ≤ 100000000) {a m b : Int} (ha : a = u.length) (hm : m = (u.length : Int) + x.length) (hb : b = (u.length : Int) + x.length + 1) {K : Ending → World → Prop}
    (hK : ∀ r w', r.Perm (x ++ [e]) → Asc leE r → Ctx W w' (bufE p cap (u ++ r ++ z) :: S) Φ → K (.returned (.tuple #[])) w') {w : World} (cx : Ctx W w (bufE p cap (u ++ x ++ [e] ++ z) :: S) Φ) :
    Calls Tryz.prog F.slices_symMergeCmpFunc_api_Delta #[.slice p N cap, .int .i64 a, .int .i64 m, .int .i64 b, .func (.func f) #[] cp] w K := by
  subst hN ha hm hb
  have hl : (u ++ x ++ [e] ++ z).length = u.length + x.length + 1 + z.length := by simp; omega
  refine (Bslices_symMergeCmpFunc_api_Delta_run p (u ++ x ++ [e] ++ z).length cap u.length ((u.length : Int) + x.length) ((u.length : Int) + x.length + 1) f cp (J := fun u w' => K (.returned u) w') cx ?_).mono fun e w' ⟨v, he, hj⟩ => by rw [he]; exact hj
  obtain ⟨g, rfl⟩ := e_ptr cx (by omega)
  refine ⟨by unfold I64; omega, Br.intro (fun h => by have := of_decide_eq_true h; omega) (fun _ => ⟨by unfold I64; omega, Br.intro (fun _ => ?_) (fun h => by have := of_decide_eq_false h; omega)⟩)⟩
  refine exI_mk (fun i j R' Φ' k => ∃ α β : Nat, i = (u.length : Int) + α ∧ j = (u.length : Int) + β ∧ α ≤ β ∧ β ≤ x.length ∧ (∀ q ∈ x.take α, leE q e) ∧ (∀ q ∈ x.drop β, leE e q) ∧ R' = bufE (some ⟨g, 0, none⟩) cap (u ++ x ++ [e] ++ z) :: S ∧ Φ' = Φ ∧ k = β - α)
    ⟨⟨_, Φ, _, inferInstance, fun w G cx => cx, 0, x.length, by omega, by omega, by omega, by omega, by simp, by simp, rfl, rfl, rfl⟩, ?_⟩
  clear cx
  rintro _ _ R1 Φ1 k _ ⟨α, β, rfl, rfl, h1, h2, h3, h4, rfl, rfl, rfl⟩
  refine Br.intro (fun hlt => ?_) (fun hge => ?_)
  · have hlt := of_decide_eq_true hlt
    have hαβ : α < β := by omega
    obtain ⟨γ, hγ⟩ : ∃ γ, (α + β) / 2 = γ := ⟨_, rfl⟩
    have hγ1 : α ≤ γ := by omega
    have hγ2 : γ < β := by omega
    have hsum : ((u.length : Int) + α + ((u.length : Int) + β)) = ((2 * u.length + (α + β) : Nat) : Int) := by omega
    have hhalf : (2 * u.length + (α + β)) / 2 = u.length + γ := by omega
    have hX : (u ++ x ++ [e] ++ z)[u.length + γ]? = some x[γ] := get_fst (by omega)
    have hE : (u ++ x ++ [e] ++ z)[u.length + x.length]? = some e := by simp
    have nm : ((u.length : Int) + x.length).toNat = u.length + x.length := by omega
    refine ⟨by unfold I64; omega, ((u.length + γ : Nat) : Int), fun w => by rw [hsum, ← hhalf]; exact shr_run _ (by omega) w, ?_⟩
    rw [wrap_nat (by omega)]
    refine ⟨bufE (some ⟨g, 0, none⟩) cap (u ++ x ++ [e] ++ z) :: S, Φ1, inferInstance, fun w G cx => cx, by omega, ptrK_intro g 0 rfl ⟨by omega, ptrK_intro g 0 rfl ⟨e.d.time, e.p, e.d.row.length, e.c, e.d.n, fun w G cx => ⟨_, e.p, _, e.c, _, by rw [Nat.zero_add, nm]; exact e_row cx hE, rfl⟩, x[γ].d.time, x[γ].p, x[γ].d.row.length, x[γ].c, x[γ].d.n, fun w G cx => ⟨_, x[γ].p, _, x[γ].c, _, by rw [Nat.zero_add, Int.toNat_natCast]; exact e_row cx hX, rfl⟩, fun w G cx => ⟨hf.1, (hf.2 e x[γ] hPe (hPx _ (List.getElem_mem _))).use cx fun w cx => ⟨_, rfl, bufE (some ⟨g, 0, none⟩) cap (u ++ x ++ [e] ++ z) :: S, Φ1, inferInstance, cx, Br.intro (fun hc => ?_) (fun hc => ?_)⟩⟩⟩⟩⟩
    · have hc := leE_not (x := e) (y := x[γ]) (fun h => by rw [decide_eq_true h] at hc; cases hc)
      refine ⟨by unfold I64; omega, _, Φ1, β - (γ + 1), inferInstance, fun w G cx => cx, ⟨γ + 1, β, by omega, by omega, by omega, h2, fun q hq => ?_, h4, rfl, rfl, rfl⟩, by omega⟩
      obtain ⟨i, hi, rfl⟩ := List.getElem_of_mem hq
      rw [List.length_take] at hi
      rw [List.getElem_take]
      exact ordE.trans _ _ _ (asc_le ordE hax (i := i) (j := γ) (by omega) (by omega)) hc
    · have hc := leE_of_lt (show cmpD e.d x[γ].d < 0 by simpa using hc)
      refine ⟨_, Φ1, γ - α, inferInstance, fun w G cx => cx, ⟨α, γ, by omega, by omega, by omega, by omega, h3, fun q hq => ?_, rfl, rfl, rfl⟩, by omega⟩
      obtain ⟨i, hi, rfl⟩ := List.getElem_of_mem hq
      rw [List.length_drop] at hi
      rw [List.getElem_drop]
      exact ordE.trans _ _ _ hc (asc_le ordE hax (i := γ) (j := γ + i) (by omega) (by omega))
  · have hge := of_decide_eq_false hge
    have hαβ : α = β := by omega
    subst hαβ
    refine exI_mk (fun k R' Φ' kk => ∃ κ : Nat, k = (u.length : Int) + κ ∧ α ≤ κ ∧ κ ≤ x.length ∧ R' = bufE (some ⟨g, 0, none⟩) cap (u ++ x.take κ ++ e :: x.drop κ ++ z) :: S ∧ Φ' = Φ1 ∧ κ = kk) ⟨⟨bufE (some ⟨g, 0, none⟩) cap (u ++ x.take x.length ++ e :: x.drop x.length ++ z) :: S, Φ1, _, inferInstance, fun w G cx => cx.re (by simp), x.length, by omega, by omega, by omega, rfl, rfl, rfl⟩, ?_⟩
    rintro _ R2 Φ2 kk _ ⟨κ, rfl, hκ, hκx, rfl, rfl, rfl⟩
    refine Br.intro (fun hlt => ?_) (fun hge => fun w G cx => ?_)
    · have hlt := of_decide_eq_true hlt
      obtain ⟨κ, rfl⟩ : ∃ j, κ = j + 1 := ⟨κ - 1, by omega⟩
      have hκy : κ < x.length := by omega
      obtain ⟨E, hE⟩ : ∃ E, u ++ x.take (κ + 1) ++ e :: x.drop (κ + 1) ++ z = E := ⟨_, rfl⟩
      have hE' : E = (u ++ x.take κ) ++ x[κ] :: e :: (x.drop (κ + 1) ++ z) := by rw [← hE, List.take_succ_eq_append_getElem hκy]; simp only [List.append_assoc, List.cons_append, List.nil_append]
      have hEn : u ++ x.take κ ++ e :: x.drop κ ++ z = (u ++ x.take κ) ++ e :: x[κ] :: (x.drop (κ + 1) ++ z) := by rw [List.drop_eq_getElem_cons hκy]; simp only [List.append_assoc, List.cons_append]
      have hal : (u ++ x.take κ).length = u.length + κ := by simp; omega
      have hEl : E.length = u.length + 1 + x.length + z.length := by rw [hE']; simp; omega
      have hX : E[u.length + κ]? = some x[κ] := by rw [hE', ← hal]; exact get_at _ _ _
      have hY : E[u.length + κ + 1]? = some e := by
        have := get_at2 (u ++ x.take κ) x[κ] e (x.drop (κ + 1) ++ z)
        rw [hal] at this
        rw [hE']
        exact this
      have hsw := (nb_swap (u ++ x.take κ) x[κ] e (x.drop (κ + 1) ++ z) (i := u.length + κ) (j := u.length + κ + 1) hal.symm (by omega)).2
      rw [← hE', ← hEn] at hsw
      rw [hE]
      have n1 : ((u.length : Int) + ((κ + 1 : Nat) : Int)).toNat = u.length + κ + 1 := by omega
      have n2 : ((u.length : Int) + ((κ + 1 : Nat) : Int) - 1).toNat = u.length + κ := by omega
      generalize x[κ] = q at hX hY hE' hEn
      refine ⟨[], fun _ _ => True, inferInstance, fun w G cx => (cx.weak fun _ _ _ => trivial).right, by unfold I64; omega, by unfold I64; omega, by omega, ptrK_intro g 0 rfl ⟨by omega, ptrK_intro g 0 rfl fun w G cx => ⟨e.d.time, e.p, e.d.row.length, e.c, e.d.n, by rw [Nat.zero_add, n1]; exact e_row cx hY, fun w G cx => ⟨q.d.time, q.p, q.d.row.length, q.c, q.d.n, by rw [Nat.zero_add, n2]; exact e_row cx hX, by omega, ptrK_intro g 0 rfl fun w G cx => ⟨by rw [Nat.zero_add, n1]; exact e_can cx (by omega), fun w' hw' => ?_⟩⟩⟩⟩⟩
      rw [Nat.zero_add, n1] at hw'
      refine ⟨bufE (some ⟨g, 0, none⟩) cap (E.set (u.length + κ + 1) q) :: S, Φ2, inferInstance, e_swap hY hX cx hw', fun w G cx => (cx.weak fun _ _ _ => trivial).right, by omega, ptrK_intro g 0 rfl fun w G cx => ⟨by rw [Nat.zero_add, n2]; exact e_can cx (by rw [List.length_set]; omega), fun w' hw' => ?_⟩⟩
      rw [Nat.zero_add, n2] at hw'
      have cx2 := e_swap2 hY hX cx hw'
      rw [hsw] at cx2
      exact ⟨bufE (some ⟨g, 0, none⟩) cap (u ++ x.take κ ++ e :: x.drop κ ++ z) :: S, Φ2, inferInstance, cx2, fun w G cx => (cx.weak fun _ _ _ => trivial).right, by unfold I64; omega, _, Φ2, κ, inferInstance, fun w G cx => cx, ⟨κ, by omega, by omega, by omega, rfl, rfl, rfl⟩, by omega⟩
    · have hge := of_decide_eq_false hge
      have hκα : κ = α := by omega
      subst hκα
      refine hK (x.take κ ++ e :: x.drop κ) w ?_ (asc_put (by rw [List.take_append_drop]; exact hax) h3 h4) (cx.left.re (by simp))
      have h := List.perm_middle (a := e) (l₁ := x.take κ) (l₂ := x.drop κ)
      rw [List.take_append_drop] at h
      exact h.trans (List.perm_append_comm (l₁ := [e]))

end Go.Proofs.YtbkpfhhhbhaecaaGreatDoor
end

