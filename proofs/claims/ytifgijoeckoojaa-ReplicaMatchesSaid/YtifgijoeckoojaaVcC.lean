/-
  THE CONDITIONS OF A WALK AS ONE FORMULA: operations that only read, second part.
-/
import Derived.Test.YtifgijoeckoojaaVcB
set_option linter.unusedVariables false
set_option linter.unusedSimpArgs false
namespace Go.Vc
open Go.RowKit

/-! ### loads under a guard -/
def vcLoadG (P : Program) (t : TypeId) (w : World) (g : Option Bool) (b o : Nat) (K : Value → Prop) : Prop :=
  match P.underlying t, P.info? t with
  | some d, some i =>
    match aggD d, i.zero.map Sh.of with
    | true, some (.agg l) => match Nat.beq l.length i.size with
      | true => exL l fun vs => ob g (RowAt w b o vs) ∧ K (.agg vs.toArray)
      | false => False
    | false, some (.one s) => s.ex fun v => ob g (w.cell? ⟨b, o, none⟩ = some v) ∧ K v
    | _, _ => False
  | _, _ => False

theorem cell_heap {w w' : World} (h : w'.heap = w.heap) (a : Addr) : w'.cell? a = w.cell? a := by simp [World.cell?, h]

theorem vcLoadG_sound {P : Program} {t : TypeId} {w : World} {g : Option Bool} {b o : Nat} {K : Value → Prop} (h : vcLoadG P t w g b o K) :
    ∃ v, (gOn g → ∀ w', w'.heap = w.heap → (loadVar t ⟨b, o, none⟩).run P w' = .ok v w') ∧ K v := by
  unfold vcLoadG at h
  split at h
  · rename_i d i hd hi
    split at h
    · rename_i l ha _
      split at h
      · rename_i hl
        obtain ⟨vs, hlen, hc, hk⟩ := exL_len h
        rw [Nat.eq_of_beq_eq_true hl] at hlen
        refine ⟨_, fun hg w' hw => ?_, hk⟩
        have hr := run_loadCellsFrom (P := P) (w := w') (b := b) (o := o) vs 0 #[] (fun j hj => by rw [cell_heap hw, Nat.zero_add]; exact ob_out hc hg j hj)
        unfold loadVar loadCells
        simp only [Sem.run_bind, run_isAgg hd, ha, Result.andThen, if_true, run_sizeOf hi, ← hlen, hr, Sem.run_pure]
        simp
      · exact h.elim
    · rename_i s ha _
      obtain ⟨v, hv, hk⟩ := Sc.ex_some h
      refine ⟨v, fun hg w' hw => ?_, hk⟩
      have hc := ob_out hv hg
      rw [← cell_heap hw] at hc
      unfold loadVar
      simp only [Sem.run_bind, run_isAgg hd, ha, Result.andThen, Bool.false_eq_true, if_false, load, Sem.run, hc]
    · exact h.elim
  · exact h.elim

/-! ### addresses -/
def vcFieldAddr (P : Program) (t : TypeId) (x : Value) (f : Nat) (K : Value → Prop) : Option Prop :=
  match x, P.underlying t with
  | .pointer (some ⟨b, o, none⟩), some (.struct fs) =>
    match fs[f]? with
    | some fd =>
      match P.info? fd.type with
      | some i => if i.size = 0 then none else some (K (.pointer (some ⟨b, o + fd.offset, none⟩)))
      | none => none
    | none => none
  | _, _ => none

theorem addr_add (b o n : Nat) : (⟨b, o, none⟩ : Addr).add n = ⟨b, o + n, none⟩ := by unfold Addr.add; split <;> simp_all

theorem vcFieldAddr_sound {P : Program} {t : TypeId} {x : Value} {f : Nat} {K : Value → Prop} {p : Prop} (h : vcFieldAddr P t x f K = some p) (hp : p) :
    ∃ v, (∀ w, (Instr.fieldAt t x f).run P w = .ok v w) ∧ K v := by
  unfold vcFieldAddr at h
  split at h
  · rename_i b o fs ht
    split at h
    · rename_i fd hf
      split at h
      · rename_i i hi
        split at h
        · cases h
        · rename_i hz
          cases h
          refine ⟨_, fun w => ?_, hp⟩
          simp [Instr.fieldAt, run_underlying ht, Result.andThen, hf, Instr.sureAddr, fieldPlace, run_sizeOf hi, hz, addr_add]
      · cases h
    · cases h
  · cases h

/-- a pointer that is not nil: known as it stands, or to be shown -/
def ptrK (g : Option Bool) (p : Option Addr) (K : Nat → Nat → Prop) : Prop :=
  match p with
  | some ⟨b, o, none⟩ => K b o
  | p => ∃ b o, ob g (p = some ⟨b, o, none⟩) ∧ K b o

theorem ptrK_out {g : Option Bool} {p : Option Addr} {K : Nat → Nat → Prop} (h : ptrK g p K) : ∃ b o, ob g (p = some ⟨b, o, none⟩) ∧ K b o := by
  unfold ptrK at h
  split at h
  · refine ⟨_, _, ?_, h⟩
    cases g
    · rfl
    · exact fun _ => rfl
  · exact h

theorem ptrK_intro {g : Option Bool} {p : Option Addr} {K : Nat → Nat → Prop} (b o : Nat) (h : p = some ⟨b, o, none⟩) (hk : K b o) : ptrK g p K := by
  subst h; exact hk

theorem ptrK_off {c : Bool} {p : Option Addr} {K : Nat → Nat → Prop} (h : c = false) (hk : ∀ b o, K b o) : ptrK (some c) p K := by
  subst h
  unfold ptrK
  split
  · exact hk _ _
  · exact ⟨0, 0, fun h => (by cases h), hk _ _⟩

/-- where element 'n' lies -/
def idx (o n : Nat) : Nat → Nat
  | 1 => o + n
  | s => o + n * s

theorem idx_eq (o n s : Nat) : idx o n s = o + n * s := by
  unfold idx
  split
  · simp
  · rfl

def sizeT (P : Program) (t : TypeId) : Nat := match P.info? t with | some i => i.size | none => 0

/-- the address of element 'n' -/
def vcIndexAddr (P : Program) (g : Option Bool) (t : TypeId) (x i : Value) (K : Value → Prop) : Option Prop :=
  match x, i, P.underlying t with
  | .slice p len _, .int _ n, some (.slice e) =>
    match P.info? e with
    | some ie => some (ob g (0 ≤ n ∧ n < len) ∧ ptrK g p fun b o => K (.pointer (some ⟨b, idx o n.toNat ie.size, none⟩)))
    | none => none
  | .pointer (some ⟨b, o, none⟩), .int _ n, some (.array len e) =>
    match P.info? e with
    | some ie => some (ob g (0 ≤ n ∧ n < len) ∧ K (.pointer (some ⟨b, idx o n.toNat ie.size, none⟩)))
    | none => none
  | _, _, _ => none

theorem vcIndexAddr_sound {P : Program} {g : Option Bool} {t : TypeId} {x i : Value} {K : Value → Prop} {p : Prop} (h : vcIndexAddr P g t x i K = some p) (hp : p) :
    ∃ v, (gOn g → ∀ w, (Instr.indexAt t x i).run P w = .ok v w) ∧ K v := by
  unfold vcIndexAddr at h
  split at h
  · rename_i q len _ kk n e ht
    split at h
    · rename_i ie hi
      cases h
      obtain ⟨h0, hp⟩ := hp
      obtain ⟨b, o, h1, h2⟩ := ptrK_out hp
      refine ⟨_, fun hg w => ?_, h2⟩
      obtain ⟨h3, h4⟩ := ob_out h0 hg
      have h5 := ob_out h1 hg
      subst h5
      simp [Instr.indexAt, asIntOf, run_underlying ht, Result.andThen, h3, h4, run_sizeOf hi, addr_add, idx_eq]
    · cases h
  · rename_i b o kk n len e ht
    split at h
    · rename_i ie hi
      cases h
      obtain ⟨h1, h2⟩ := hp
      refine ⟨_, fun hg w => ?_, h2⟩
      obtain ⟨h3, h4⟩ := ob_out h1 hg
      simp [Instr.indexAt, asIntOf, run_underlying ht, Result.andThen, h3, h4, run_sizeOf hi, addr_add, Instr.sureAddr, idx_eq]
    · cases h
  · cases h

def partL (cs : Array Value) (off n : Nat) : Array Value := ((cs.toList.drop off).take n).toArray

theorem partL_eq (cs : Array Value) (off n : Nat) : cs.extract off (off + n) = partL cs off n := by
  apply Array.ext'
  simp [partL]

/-- a cell of a value that is known -/
def aggAt : Nat → List Value → Option Value
  | 0, v :: _ => some v
  | i + 1, _ :: r => aggAt i r
  | _, [] => none

theorem aggAt_eq : ∀ (i : Nat) (l : List Value), aggAt i l = l[i]?
  | 0, [] => rfl
  | 0, _ :: _ => rfl
  | i + 1, [] => rfl
  | i + 1, v :: r => by rw [aggAt, aggAt_eq i r]; rfl

/-- an element of a string or of an array -/
def vcIndex (P : Program) (g : Option Bool) (t : TypeId) (x i : Value) (K : Value → Prop) : Option Prop :=
  match x, i, P.underlying t with
  | .string s, .int _ n, some .string => some (∃ c : UInt8, ob g (0 ≤ n ∧ s.data.toList[n.toNat]? = some c) ∧ K (.int .u8 c.toNat))
  | .agg cs, .int _ n, some (.array len e) =>
    match P.underlying e, P.info? e with
    | some d, some ie =>
      match aggD d, ie.zero.map Sh.of with
      | true, some (.agg _) => some (ob g (0 ≤ n ∧ n < len) ∧ K (.agg (partL cs (idx 0 n.toNat ie.size) ie.size)))
      | false, some (.one s) => some (s.ex fun v => ob g (0 ≤ n ∧ n < len ∧ aggAt (idx 0 n.toNat ie.size) cs.toList = some v) ∧ K v)
      | _, _ => none
    | _, _ => none
  | _, _, _ => none

theorem run_part_agg {P : Program} {e : TypeId} {d : TypeDesc} {ie : TypeInfo} {cs : Array Value} {off : Nat} {w : World} (hd : P.underlying e = some d) (ha : aggD d = true) (hi : P.info? e = some ie) :
    (part e cs off).run P w = .ok (.agg (partL cs off ie.size)) w := by
  simp [part, run_isAgg hd, ha, Result.andThen, run_sizeOf hi, partL_eq]

theorem run_part_one {P : Program} {e : TypeId} {d : TypeDesc} {cs : Array Value} {off : Nat} {v : Value} {w : World} (hd : P.underlying e = some d) (ha : aggD d = false) (hv : cs[off]? = some v) :
    (part e cs off).run P w = .ok v w := by
  simp [part, run_isAgg hd, ha, Result.andThen, hv]

theorem vcIndex_sound {P : Program} {g : Option Bool} {t : TypeId} {x i : Value} {K : Value → Prop} {p : Prop} (h : vcIndex P g t x i K = some p) (hp : p) :
    ∃ v, (gOn g → ∀ w, (Instr.index t x i).run P w = .ok v w) ∧ K v := by
  unfold vcIndex at h
  split at h
  · rename_i s kk n ht
    cases h
    obtain ⟨c, h1, h2⟩ := hp
    refine ⟨_, fun hg w => ?_, h2⟩
    obtain ⟨h3, h4⟩ := ob_out h1 hg
    have h5 : s[n.toNat]? = some c := by
      obtain ⟨hlt, he⟩ := List.getElem?_eq_some_iff.1 h4
      have hs : n.toNat < s.size := by simpa using hlt
      rw [getElem?_pos s n.toNat hs]
      simpa [ByteArray.getElem_eq_getElem_data] using he
    simp [Instr.index, asIntOf, run_underlying ht, Result.andThen, h3, h5]
  · rename_i cs kk n len e ht
    split at h
    · rename_i d ie hd hi
      split at h
      · rename_i l ha _
        cases h
        obtain ⟨h1, h2⟩ := hp
        refine ⟨_, fun hg w => ?_, h2⟩
        obtain ⟨h3, h4⟩ := ob_out h1 hg
        simp [Instr.index, asIntOf, run_underlying ht, Result.andThen, h3, h4, run_sizeOf hi, run_part_agg hd ha hi, idx_eq]
      · rename_i s ha _
        cases h
        obtain ⟨v, h1, h2⟩ := Sc.ex_some hp
        refine ⟨v, fun hg w => ?_, h2⟩
        obtain ⟨h3, h4, h5⟩ := ob_out h1 hg
        rw [idx_eq, Nat.zero_add, aggAt_eq, Array.getElem?_toList] at h5
        simp [Instr.index, asIntOf, run_underlying ht, Result.andThen, h3, h4, run_sizeOf hi, run_part_one hd ha h5]
      · cases h
    · cases h
  · cases h

def vcField (P : Program) (t : TypeId) (x : Value) (f : Nat) (K : Value → Prop) : Option Prop :=
  match x, P.underlying t with
  | .agg cs, some (.struct fs) =>
    match fs[f]? with
    | some fd =>
      match P.underlying fd.type, P.info? fd.type with
      | some d, some i =>
        match aggD d with
        | true => some (K (.agg (partL cs fd.offset i.size)))
        | false => match cs[fd.offset]? with
          | some v => some (K v)
          | none => none
      | _, _ => none
    | none => none
  | _, _ => none

theorem vcField_sound {P : Program} {t : TypeId} {x : Value} {f : Nat} {K : Value → Prop} {p : Prop} (h : vcField P t x f K = some p) (hp : p) :
    ∃ v, (∀ w, (Instr.field t x f).run P w = .ok v w) ∧ K v := by
  unfold vcField at h
  split at h
  · rename_i cs fs ht
    split at h
    · rename_i fd hf
      split at h
      · rename_i d i hd hi
        split at h
        · rename_i ha
          cases h
          exact ⟨_, fun w => by simp [Instr.field, run_underlying ht, Result.andThen, hf, asAgg, run_part_agg hd ha hi], hp⟩
        · rename_i ha
          split at h
          · rename_i v hv
            cases h
            exact ⟨_, fun w => by simp [Instr.field, run_underlying ht, Result.andThen, hf, asAgg, run_part_one hd ha hv], hp⟩
          · cases h
      · cases h
    · cases h
  · cases h

/-- where a part of a slice begins -/
def subPtr (p : Option Addr) (size l m : Nat) : Option Addr := if m = l then p else p.map (·.add (l * size))

def sliceGo (g : Option Bool) (lo hi : Option Value) (len cap : Nat) (K' : Nat → Nat → Prop) : Option Prop :=
  match lo, hi with
  | none, none => some (ob g (len ≤ cap) ∧ K' 0 len)
  | some (.int _ l), none => some (ob g (0 ≤ l ∧ l ≤ len ∧ len ≤ cap) ∧ K' l.toNat len)
  | none, some (.int _ h) => some (ob g (0 ≤ h ∧ h ≤ cap) ∧ K' 0 h.toNat)
  | some (.int _ l), some (.int _ h) => some (ob g (0 ≤ l ∧ l ≤ h ∧ h ≤ cap) ∧ K' l.toNat h.toNat)
  | _, _ => none

/-- 's[l:h]' -/
def vcSlice (P : Program) (g : Option Bool) (t : TypeId) (x : Value) (lo hi : Option Value) (K : Value → Prop) : Option Prop :=
  match x, P.underlying t with
  | .string s, some .string => sliceGo g lo hi s.size s.size fun l h => K (.string (s.extract l h))
  | .slice p len cap, some (.slice e) =>
    match P.info? e with
    | some ie => sliceGo g lo hi len cap fun l h => K (.slice (subPtr p ie.size l cap) (h - l) (cap - l))
    | none => none
  | .pointer (some ⟨b, o, none⟩), some (.array n e) =>
    match P.info? e with
    | some ie => sliceGo g lo hi n n fun l h => K (.slice (subPtr (some ⟨b, o, none⟩) ie.size l n) (h - l) (n - l))
    | none => none
  | _, _ => none

theorem run_bounds {P : Program} {isS : Bool} {len cap : Nat} {lo hi : Option Value} {l h : Nat} (hlo : match lo with | none => l = 0 | some (.int _ n) => 0 ≤ n ∧ l = n.toNat | _ => False)
    (hhi : match hi with | none => h = len | some (.int _ n) => 0 ≤ n ∧ h = n.toNat | _ => False) (hlh : l ≤ h) (hc : h ≤ cap) (w : World) :
    (Instr.sliceBounds isS len cap lo hi none).run P w = .ok (l, h, cap) w := by
  have hb : ∀ (k : IntKind) (n : Int) (y : Nat) (code : BoundsCode), 0 ≤ n → n.toNat ≤ y → (Instr.sliceBound (.int k n) y code).run P w = .ok n.toNat w := by
    intro k n y code h0 h1
    unfold Instr.sliceBound
    simp only [asIntOf, Sem.run_bind, Sem.run_pure, Result.andThen]
    rw [if_pos ⟨h0, by omega⟩]
    rfl
  unfold Instr.sliceBounds
  cases hi with
  | none =>
    simp only at hhi
    subst hhi
    cases lo with
    | none => simp only at hlo; subst hlo; simp [Result.andThen]
    | some v =>
      cases v <;> simp only at hlo
      obtain ⟨h0, rfl⟩ := hlo
      simp [Result.andThen, hb _ _ _ _ h0 hlh]
  | some v =>
    cases v <;> simp only at hhi
    obtain ⟨h0, rfl⟩ := hhi
    cases lo with
    | none => simp only at hlo; subst hlo; simp [Result.andThen, hb _ _ _ _ h0 hc]
    | some v =>
      cases v <;> simp only at hlo
      obtain ⟨h1, rfl⟩ := hlo
      simp [Result.andThen, hb _ _ _ _ h0 hc, hb _ _ _ _ h1 hlh]

theorem vcSlice_go {g : Option Bool} {lo hi : Option Value} {len cap : Nat} {K' : Nat → Nat → Prop} {p : Prop}
    (h : sliceGo g lo hi len cap K' = some p) (hp : p) :
    ∃ l h, (gOn g → (match lo with | none => l = 0 | some (.int _ n) => 0 ≤ n ∧ l = n.toNat | _ => False) ∧ (match hi with | none => h = len | some (.int _ n) => 0 ≤ n ∧ h = n.toNat | _ => False) ∧ l ≤ h ∧ h ≤ cap) ∧ K' l h := by
  unfold sliceGo at h
  split at h
  · cases h; obtain ⟨h1, h2⟩ := hp; exact ⟨_, _, fun hg => ⟨rfl, rfl, by omega, ob_out h1 hg⟩, h2⟩
  · cases h; obtain ⟨h1, h2⟩ := hp; exact ⟨_, _, fun hg => by have := ob_out h1 hg; exact ⟨⟨this.1, rfl⟩, rfl, by omega, this.2.2⟩, h2⟩
  · cases h; obtain ⟨h1, h2⟩ := hp; exact ⟨_, _, fun hg => by have := ob_out h1 hg; exact ⟨rfl, ⟨this.1, rfl⟩, by omega, by omega⟩, h2⟩
  · cases h; obtain ⟨h1, h2⟩ := hp; exact ⟨_, _, fun hg => by have := ob_out h1 hg; exact ⟨⟨this.1, rfl⟩, ⟨by omega, rfl⟩, by omega, by omega⟩, h2⟩
  · cases h

theorem vcSlice_sound {P : Program} {g : Option Bool} {t : TypeId} {x : Value} {lo hi : Option Value} {K : Value → Prop} {p : Prop} (h : vcSlice P g t x lo hi K = some p) (hp : p) :
    ∃ v, (gOn g → ∀ w, (Instr.sliceAt t x lo hi none).run P w = .ok v w) ∧ K v := by
  unfold vcSlice at h
  split at h
  · rename_i s ht
    obtain ⟨l, hh, hb, hk⟩ := vcSlice_go h hp
    refine ⟨_, fun hg w => ?_, hk⟩
    obtain ⟨h1, h2, h3, h4⟩ := hb hg
    simp [Instr.sliceAt, run_underlying ht, Result.andThen, Instr.slice, run_bounds h1 h2 h3 h4]
  · rename_i q len cap e ht
    split at h
    · rename_i ie hi
      obtain ⟨l, hh, hb, hk⟩ := vcSlice_go h hp
      refine ⟨_, fun hg w => ?_, hk⟩
      obtain ⟨h1, h2, h3, h4⟩ := hb hg
      simp [Instr.sliceAt, run_underlying ht, Result.andThen, Instr.slice, run_bounds h1 h2 h3 h4, run_sizeOf hi, subPtr]
    · cases h
  · rename_i b o n e ht
    split at h
    · rename_i ie hi
      obtain ⟨l, hh, hb, hk⟩ := vcSlice_go h hp
      refine ⟨_, fun hg w => ?_, hk⟩
      obtain ⟨h1, h2, h3, h4⟩ := hb hg
      simp [Instr.sliceAt, run_underlying ht, Result.andThen, Instr.sureAddr, run_bounds h1 h2 h3 h4, run_sizeOf hi, subPtr]
      split <;> rfl
    · cases h
  · cases h

end Go.Vc
