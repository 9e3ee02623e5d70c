/-
  THE CONDITIONS OF A WALK AS ONE FORMULA: operations that write, make memory or call; regions in the text's order.
-/
import Derived.Test.YtifgijoeckoojaaVcD
set_option linter.unusedVariables false
set_option linter.unusedSimpArgs false
namespace Go.Vc
open Go.RowKit

/-- the run of an operation, and what is asked of it -/
def goOn (P : Program) (K : Value → World → Prop) : Result Next → Prop
  | .ok (.value v) w => K v w
  | .ok .skip w => K undef w
  | .ok (.enter f args) w => Calls P f args w fun e w' => ∃ v, e = .returned v ∧ K v w'
  | _ => False

/-- what a slice literal lies in -/
def vcBuildSlice (P : Program) (t : TypeId) (n : Nat) (parts : List (Nat × Value)) (w : World) (K : Value → World → Prop) : Prop :=
  match P.underlying t with
  | some (.slice e) =>
    match P.info? e, zeroOf P e with
    | some i, some z =>
      match Nat.ble (n * i.size) 16777216 && Nat.beq i.size z.cells.toList.length with
      | true =>
        match fillL (fun j => some (j * i.size, i.size)) (zeros n z.cells.toList) parts with
        | some cells => ∀ w', w' = w.alloc (.cells cells.toArray e) → K (.slice (some ⟨w.heap.size, 0, none⟩) n n) w'
        | none => False
      | false => False
    | _, _ => False
  | _ => False

theorem run_newRow {P : Program} {w : World} (cells : Array Value) (e : TypeId) : (newRow e cells).run P w = .ok ⟨w.heap.size, 0, none⟩ (w.alloc (.cells cells e)) := by
  simp [newRow, newObj, Sem.run, Result.andThen]

theorem vcBuildSlice_sound {P : Program} {t : TypeId} {n : Nat} {parts : Array (Nat × Value)} {w : World} {K : Value → World → Prop} (h : vcBuildSlice P t n parts.toList w K) :
    ∃ v w', (Instr.buildSlice t n parts).run P w = .ok v w' ∧ K v w' := by
  unfold vcBuildSlice at h
  split at h
  · rename_i e ht
    split at h
    · rename_i i z hi hz
      split at h
      · rename_i hn
        simp only [Bool.and_eq_true] at hn
        have hsz : i.size = z.cells.size := by have := Nat.eq_of_beq_eq_true hn.2; simpa using this
        have hle : n * i.size ≤ 16777216 := Nat.le_of_ble_eq_true hn.1
        split at h
        · rename_i cells hf
          refine ⟨_, _, ?_, h _ rfl⟩
          have e1 : ¬ (n * i.size > 2 ^ 24) := by omega
          have hmk := fillL_sound hf
          unfold Instr.buildSlice
          rw [Sem.run_bind, run_underlying ht]
          simp only [Result.andThen]
          rw [Sem.run_bind, run_sizeOf hi]
          simp only [Result.andThen, if_neg e1]
          by_cases h0 : n * i.size = 0
          · have hz0 : zeros n z.cells.toList = [] := by
              have hl : (zeros n z.cells.toList).length = n * i.size := by rw [hsz]; simp [zeros, List.length_flatten]
              rw [h0] at hl
              exact List.eq_nil_of_length_eq_zero hl
            rw [hz0] at hmk
            simp [h0, range_zero, hmk, Result.andThen, run_newRow]
          · have hz1 := zeros_eq n z.cells
            rw [← hsz] at hz1
            simp only [h0, if_false, Sem.run_bind, run_zero hz, Result.andThen, Sem.run_pure]
            rw [← hsz, hz1, hmk]
            simp [Result.andThen, run_newRow]
        · exact h.elim
      · exact h.elim
    · exact h.elim
  · exact h.elim

/-- 'make([]T, l, c)', the elements of one cell -/
def vcMakeSlice (P : Program) (t : TypeId) (l c : Value) (w : World) (K : Value → World → Prop) : Prop :=
  match P.underlying t, l, c with
  | some (.slice e), .int .i64 l, .int .i64 c =>
    match P.info? e, zeroOf P e with
    | some i, some z =>
      (0 ≤ l ∧ l ≤ c ∧ i.bytes * c ≤ 281474976710656 ∧ c ≤ 9223372036854775807) ∧
        (if i.size = 1 ∧ oneC z = true then ∀ w', w' = w.alloc (.cells (List.replicate c.toNat z).toArray e) → K (.slice (some ⟨w.heap.size, 0, none⟩) l.toNat c.toNat) w'
         else if i.size = z.cells.toList.length ∧ i.size ≠ 0 then ∀ w', w' = w.alloc (.cells (zeros c.toNat z.cells.toList).toArray e) → K (.slice (some ⟨w.heap.size, 0, none⟩) l.toNat c.toNat) w'
         else False)
    | _, _ => False
  | _, _, _ => False

theorem range_map_one (z : Value) (n : Nat) : (Array.range n).map ((#[z] : Array Value)[· % (#[z] : Array Value).size]!) = Array.replicate n z := by
  apply Array.ext
  · simp
  · intro i h1 h2
    simp [Nat.mod_one]

theorem run_makeSlice {P : Program} {t e : TypeId} {i : TypeInfo} {z : Value} {l c : Int} {w : World} (ht : P.underlying t = some (.slice e)) (hi : P.info? e = some i) (hz : zeroOf P e = some z)
    (h : 0 ≤ l ∧ l ≤ c ∧ i.bytes * c ≤ 281474976710656 ∧ c ≤ 9223372036854775807) (hsz : i.size ≠ 0) :
    (Instr.makeSlice t (.int .i64 l) (.int .i64 c)).run P w = .ok (.slice (some ⟨w.heap.size, 0, none⟩) l.toNat c.toNat) (w.alloc (.cells ((Array.range (c.toNat * i.size)).map (z.cells[· % z.cells.size]!)) e)) := by
  obtain ⟨h1, h2, h3, h4⟩ := h
  have hl : IntKind.i64.wrap l = l := IntWalk.i64_in l (by omega)
  have hc : IntKind.i64.wrap c = c := IntWalk.i64_in c (by omega)
  have ht1 : (typeInfo e).run P w = .ok i w := by simp [typeInfo, hi]
  have hai : ∀ n : Int, (asInt (.int .i64 n)).run P w = .ok n w := fun n => by simp [asInt, asIntOf, Result.andThen]
  have e1 : ((decide (c < 0) || decide ((i.bytes : Int) * c > 2 ^ 48)) || decide (l < 0) || decide (l > c)) = false := by
    simp; omega
  have hask : (askRoom (c.toNat * i.bytes)).run P w = .ok () w := by unfold askRoom; split <;> simp [mark, Sem.run]
  have hro : ∀ (cells : Array Value), (newRow e cells).run P w = .ok ⟨w.heap.size, 0, none⟩ (w.alloc (.cells cells e)) := fun cells => by simp [newRow, newObj, Sem.run, Result.andThen]
  unfold Instr.makeSlice
  simp only [Sem.run_bind, run_underlying ht, Result.andThen, hai, ht1, hl, hc]
  rw [if_neg (by rw [e1]; simp)]
  simp only [Sem.run_bind, hask, Result.andThen, run_sizeOf hi]
  by_cases h0 : c.toNat * i.size = 0
  · rw [h0]
    simp [hro, range_zero, Result.andThen]
  · simp [h0, run_zero hz, Result.andThen, hro]

theorem vcMakeSlice_sound {P : Program} {t : TypeId} {l c : Value} {w : World} {K : Value → World → Prop} (h : vcMakeSlice P t l c w K) :
    ∃ v w', (Instr.makeSlice t l c).run P w = .ok v w' ∧ K v w' := by
  unfold vcMakeSlice at h
  split at h
  · rename_i e l c ht
    split at h
    · rename_i i z hi hz
      obtain ⟨hb, h⟩ := h
      split at h
      · rename_i hc
        have hr := run_makeSlice (P := P) (w := w) ht hi hz hb (by omega)
        have hcells : z.cells = #[z] := by cases z <;> first | rfl | cases hc.2
        rw [hc.1, Nat.mul_one, hcells, range_map_one, ← List.toArray_replicate] at hr
        exact ⟨_, _, hr, h _ rfl⟩
      · split at h
        · rename_i hc
          have hr := run_makeSlice (P := P) (w := w) ht hi hz hb hc.2
          have hz1 := zeros_eq c.toNat z.cells
          have hsz : i.size = z.cells.size := by simpa using hc.1
          rw [hsz, hz1] at hr
          exact ⟨_, _, hr, h _ rfl⟩
        · exact h.elim
    · exact h.elim
  · exact h.elim

/-- ONE OPERATION THAT WRITES, MAKES MEMORY OR CALLS -/
def tupK (P : Program) (ex : Nat → Option TypeId) (i : Nat) (K : Value → Prop) : Prop :=
  match ex i with
  | some t => shapeK P t K
  | none => ∃ v, K v

theorem tupK_some {P : Program} {ex : Nat → Option TypeId} {i : Nat} {K : Value → Prop} (h : tupK P ex i K) : ∃ v, K v := by
  unfold tupK at h
  split at h
  · exact shapeK_some h
  · exact h

/-- the types of what is taken out of an operation's tuple, in the same region -/
def extractsOf (d : Option Tmp) (i : Nat) : List Oper → Option TypeId
  | [] => none
  | o :: r => match o.op, d with
    | .extract (.tmp t) j, some t' => match Nat.beq t t' && Nat.beq i j with
      | true => some o.type
      | false => extractsOf d i r
    | _, _ => extractsOf d i r

def effK (P : Program) (ex : Nat → Option TypeId) (o : Oper) (ρ : Operand → Value) (w : World) (K : Value → World → Prop) : Prop :=
  match o.op with
  | .store t x y => match ρ x with
    | .pointer (some ⟨b, off, none⟩) => vcStore P t w b off (ρ y) fun w' => K undef w'
    | _ => False
  | .box t x => ∀ w', w' = w.alloc (.cells (ρ x).cells t) → K (.pointer (some ⟨w.heap.size, 0, none⟩)) w'
  | .alloc t => match zeroOf P t with
    | some z => ∀ w', w' = w.alloc (.cells z.cells t) → K (.pointer (some ⟨w.heap.size, 0, none⟩)) w'
    | none => False
  | .build t parts => vcBuild P t (parts.toList.map fun p => (p.1, ρ p.2)) fun v => K v w
  | .buildSlice t n parts => vcBuildSlice P t n (parts.toList.map fun p => (p.1, ρ p.2)) w K
  | .makeSlice t l c => vcMakeSlice P t (ρ l) (ρ c) w K
  | .makeMap _ none => ∀ w', w' = w.alloc (.map #[] 0) → K (.map (some w.heap.size)) w'
  | .mapUpdate t m k x => ∃ w', (Instr.mapUpdate t (ρ m) (ρ k) (ρ x)).run P w = .ok () w' ∧ K undef w'
  | .mapEntry t m k => match P.underlying t with
    | some (.map _ e) => shapeK P e fun v => ∃ (n : Int) (w' : World), (Instr.mapEntry t (ρ m) (ρ k)).run P w = .ok (.tuple #[v, .int .i64 n]) w' ∧ K (.tuple #[v, .int .i64 n]) w'
    | _ => False
  | .entryStore t m s x => ∃ w', (Instr.entryStore t (ρ m) (ρ s) (ρ x)).run P w = .ok () w' ∧ K undef w'
  | .range t x => ∃ p w', (Instr.range t (ρ x)).run P w = .ok (.pointer p) w' ∧ K (.pointer p) w'
  | .next it false => (∃ w', (Instr.next (ρ it) false o.type).run P w = .ok (.tuple #[.bool false]) w' ∧ K (.tuple #[.bool false]) w') ∨
    (∃ (k v : Value) (w' : World), (Instr.next (ρ it) false o.type).run P w = .ok (.tuple #[.bool true, k, v]) w' ∧ K (.tuple #[.bool true, k, v]) w')
  | .next it true => (∃ w', (Instr.next (ρ it) true o.type).run P w = .ok (.tuple #[.bool false]) w' ∧ K (.tuple #[.bool false]) w') ∨
    (∃ (k v : Int) (w' : World), (Instr.next (ρ it) true o.type).run P w = .ok (.tuple #[.bool true, .int .i64 k, .int .i32 v]) w' ∧ K (.tuple #[.bool true, .int .i64 k, .int .i32 v]) w')
  | .entry it => tupK P ex 0 fun k => tupK P ex 1 fun v => ∃ w', (Instr.entry (ρ it)).run P w = .ok (.tuple #[k, v]) w' ∧ K (.tuple #[k, v]) w'
  | .convert src dst x => resK P o.type fun v => ∃ w', (convert src dst (ρ x)).run P w = .ok v w' ∧ K v w'
  | .call c =>
    match c.callee with
    | .builtin b => resK P o.type fun v => ∃ w', (builtin b c.argTypes o.type (c.args.toList.map fun | .const _ => true | _ => false).toArray (c.args.toList.map ρ).toArray).run P w = .ok (.value v) w' ∧ K v w'
    | .value f =>
      match ρ f with
      | .func (.func fid) first captured =>
        match P.funcs[fid]? with
        | some fn => if fn.body.isSome = true ∧ (fn.name == "runtime.NumGoroutine") = false then callK P fid (first.toList ++ c.args.toList.map ρ ++ captured.toList).toArray w K else False
        | none => False
      | _ => False
    | _ => goOn P K ((execOp ρ o).run P w)
  | _ => goOn P K ((execOp ρ o).run P w)

theorem effK_sound {P : Program} {ex : Nat → Option TypeId} {o : Oper} {ρ : Operand → Value} {w : World} {K : Value → World → Prop} (h : effK P ex o ρ w K) : goOn P K ((execOp ρ o).run P w) := by
  unfold effK at h
  split at h
  case h_1 t x y hop =>
    split at h
    · rename_i b off hx
      obtain ⟨w', h1, h2⟩ := vcStore_sound h
      simp only [execOp, hop, hx, Instr.storeAt, Instr.sureAddr, Sem.run_bind, Sem.run_pure, Result.andThen, h1]
      exact h2
    · exact h.elim
  case h_2 t x hop =>
    simp only [execOp, hop, Instr.box, newVar, newRow, newObj, Sem.run_bind, Sem.run, Sem.run_pure, Result.andThen]
    exact h _ rfl
  case h_3 t hop =>
    split at h
    · rename_i z hz
      simp only [execOp, hop, Instr.alloc, newVar, newRow, newObj, Sem.run_bind, run_zero hz, Sem.run, Sem.run_pure, Result.andThen]
      exact h _ rfl
    · exact h.elim
  case h_4 t parts hop =>
    rw [show (parts.toList.map fun p => (p.1, ρ p.2)) = (parts.map fun (i, x) => (i, ρ x)).toList by simp] at h
    obtain ⟨v, h1, h2⟩ := vcBuild_sound (w := w) h
    simp only [execOp, hop, Sem.run_bind, h1, Sem.run_pure, Result.andThen]
    exact h2
  case h_5 t n parts hop =>
    rw [show (parts.toList.map fun p => (p.1, ρ p.2)) = (parts.map fun (i, x) => (i, ρ x)).toList by simp] at h
    obtain ⟨v, w', h1, h2⟩ := vcBuildSlice_sound h
    simp only [execOp, hop, Sem.run_bind, h1, Sem.run_pure, Result.andThen]
    exact h2
  case h_6 t l c hop =>
    obtain ⟨v, w', h1, h2⟩ := vcMakeSlice_sound h
    simp only [execOp, hop, Sem.run_bind, h1, Sem.run_pure, Result.andThen]
    exact h2
  case h_7 t hop =>
    simp only [execOp, hop, Option.map_none, Instr.makeMap, newObj, Sem.run_bind, Sem.run, Sem.run_pure, Result.andThen]
    exact h _ rfl
  case h_8 t m k x hop =>
    obtain ⟨w', h1, h2⟩ := h
    simp only [execOp, hop, Sem.run_bind, h1, Sem.run_pure, Result.andThen]
    exact h2
  case h_9 t m k hop =>
    split at h
    · obtain ⟨v, n, w', h1, h2⟩ := shapeK_some h
      simp only [execOp, hop, Sem.run_bind, h1, Sem.run_pure, Result.andThen]
      exact h2
    · exact h.elim
  case h_10 t m s x hop =>
    obtain ⟨w', h1, h2⟩ := h
    simp only [execOp, hop, Sem.run_bind, h1, Sem.run_pure, Result.andThen]
    exact h2
  case h_11 t x hop =>
    obtain ⟨p, w', h1, h2⟩ := h
    simp only [execOp, hop, Sem.run_bind, h1, Sem.run_pure, Result.andThen]
    exact h2
  case h_12 it hop =>
    rcases h with ⟨w', h1, h2⟩ | ⟨k, v, w', h1, h2⟩ <;>
    · simp only [execOp, hop, Sem.run_bind, h1, Sem.run_pure, Result.andThen]
      exact h2
  case h_13 it hop =>
    rcases h with ⟨w', h1, h2⟩ | ⟨k, v, w', h1, h2⟩ <;>
    · simp only [execOp, hop, Sem.run_bind, h1, Sem.run_pure, Result.andThen]
      exact h2
  case h_14 it hop =>
    obtain ⟨k, h⟩ := tupK_some h
    obtain ⟨v, w', h1, h2⟩ := tupK_some h
    simp only [execOp, hop, Sem.run_bind, h1, Sem.run_pure, Result.andThen]
    exact h2
  case h_15 src dst x hop =>
    obtain ⟨v, w', h1, h2⟩ := resK_some h
    simp only [execOp, hop, Sem.run_bind, h1, Sem.run_pure, Result.andThen]
    exact h2
  case h_16 c hop =>
    split at h
    · rename_i b hc
      rw [mapA, mapA] at h
      obtain ⟨v, w', h1, h2⟩ := resK_some h
      simp only [execOp, hop, resolve, hc, Sem.run_bind, Sem.run_pure, Result.andThen, invoke]
      have e : goOn P K (.ok (.value v) w') := h2
      rw [← h1] at e
      exact e
    · rename_i f hc
      split at h
      · rename_i fid first captured hf
        split at h
        · rename_i fn hfn
          split at h
          · rename_i hb
            rw [show (first.toList ++ c.args.toList.map ρ ++ captured.toList).toArray = first ++ c.args.map ρ ++ captured by apply Array.ext'; simp] at h
            have h1 := callK_sound h
            have hb' : fn.body.isNone = false := by cases hh : fn.body <;> simp_all
            simp only [execOp, hop, resolve, hc, Sem.run_bind, Deferred.ofValue, hf, Sem.run_pure, Result.andThen, invoke, callFunc, program, Sem.run, hfn, hb.2, hb', Bool.false_eq_true, if_false]
            exact h1
          · exact h.elim
        · exact h.elim
      · exact h.elim
    · exact h
  case h_17 => exact h

/-- may this function be called? -/
def okFun (P : Program) (f : FuncId) : Bool := match P.funcs[f]? with | some fn => fn.body.isSome && !(fn.name == "runtime.NumGoroutine") | none => false

/-- each of these is one cell -/
def OneAll (cs : List Value) : Prop := ∀ c ∈ cs, oneC c = true

/-- an operation of which less is known: a store of values of any kind; a call of a function value -/
def dynK (P : Program) (ex : Nat → Option TypeId) (o : Oper) (ρ : Operand → Value) (w : World) (K : Value → World → Prop) : Prop :=
  match o.op with
  | .store t x y => match ρ x with
    | .pointer (some ⟨b, off, none⟩) =>
      match P.underlying t, P.info? t with
      | some d, some i => match aggD d with
        | true => match ρ y with
          | .agg cs => match Nat.beq cs.toList.length i.size with
            | true => OneAll cs.toList ∧ CanWrite w b off i.size ∧ ∀ w', w' = w.setCells b off cs.toList → K undef w'
            | false => False
          | _ => False
        | false => match Nat.beq i.size 1 with
          | true => OneAll [ρ y] ∧ CanWrite w b off 1 ∧ ∀ w', w' = w.setCell ⟨b, off, none⟩ (ρ y) → K undef w'
          | false => False
      | _, _ => False
    | _ => False
  | .call c =>
    match c.callee with
    | .value f =>
      match ρ f with
      | .func (.func fid) first captured =>
        okFun P fid = true ∧ Calls P fid (first.toList ++ c.args.toList.map ρ ++ captured.toList).toArray w fun e w' => resK P o.type fun v => e = .returned v ∧ K v w'
      | _ => False
    | _ => effK P ex o ρ w K
  | _ => effK P ex o ρ w K

theorem dynK_sound {P : Program} {ex : Nat → Option TypeId} {o : Oper} {ρ : Operand → Value} {w : World} {K : Value → World → Prop} (h : dynK P ex o ρ w K) : goOn P K ((execOp ρ o).run P w) := by
  unfold dynK at h
  split at h
  case h_1 t x y hop =>
    split at h
    · rename_i b off hx
      split at h
      · rename_i d i hd hi
        have key : ∃ w', (storeVar t ⟨b, off, none⟩ (ρ y)).run P w = .ok () w' ∧ K undef w' := by
          split at h
          · split at h
            · rename_i cs hy
              split at h
              · rename_i hn
                obtain ⟨h1, h2, h3⟩ := h
                refine vcStore_sound (P := P) (t := t) (K := fun w' => K undef w') ?_
                unfold vcStore
                rw [hi, hy]
                simp only
                have hall : cs.toList.all oneC = true := List.all_eq_true.2 h1
                rw [hn, hall]
                exact ⟨h2, h3⟩
              · exact h.elim
            · exact h.elim
          · split at h
            · rename_i hn
              obtain ⟨h1, h2, h3⟩ := h
              have h0 : oneC (ρ y) = true := h1 _ (by simp)
              obtain ⟨h4, h5⟩ := h2 0 (by omega)
              exact ⟨_, run_storeVar_one hi (Nat.eq_of_beq_eq_true hn) h0 h4 h5, h3 _ rfl⟩
            · exact h.elim
        obtain ⟨w', h1, h2⟩ := key
        simp only [execOp, hop, hx, Instr.storeAt, Instr.sureAddr, Sem.run_bind, Sem.run_pure, Result.andThen, h1]
        exact h2
      · exact h.elim
    · exact h.elim
  case h_2 c hop =>
    split at h
    · rename_i f hc
      split at h
      · rename_i fid first captured hf
        obtain ⟨h0, h⟩ := h
        unfold okFun at h0
        split at h0
        · rename_i fn hfn
          simp only [Bool.and_eq_true, Bool.not_eq_true'] at h0
          rw [show (first.toList ++ c.args.toList.map ρ ++ captured.toList).toArray = first ++ c.args.map ρ ++ captured by apply Array.ext'; simp] at h
          have hb' : fn.body.isNone = false := by cases hh : fn.body <;> simp_all
          simp only [execOp, hop, resolve, hc, Sem.run_bind, Deferred.ofValue, hf, Sem.run_pure, Result.andThen, invoke, callFunc, program, Sem.run, hfn, h0.2, hb', Bool.false_eq_true, if_false]
          exact h.mono fun e w' h => resK_some h
        · cases h0
      · exact h.elim
    · exact effK_sound h
  case h_3 => exact effK_sound h

/-! ### frames that are known in part -/

/-- what is known of a frame of 'n' slots: a list of slots and their contents, the newest first -/
structure Fr where
  n : Nat
  l : List (Nat × Value)

def getL (i : Nat) : List (Nat × Value) → Value
  | [] => unk
  | (t, v) :: r => match Nat.beq t i with | true => v | false => getL i r

def Fr.get (s : Fr) (i : Nat) : Value := getL i s.l

def Fr.eval (s : Fr) : Operand → Value
  | .tmp t => getL t s.l
  | .const v => v
  | .global g => .pointer (some ⟨g, 0, none⟩)
  | .func f => .func (.func f) #[] #[]

def Fr.put (s : Fr) (d : Option Tmp) (v : Value) : Fr :=
  match d with
  | some t => match Nat.blt t s.n with
    | true => ⟨s.n, (t, v) :: s.l⟩
    | false => s
  | none => s

theorem fr_put_get (s : Fr) (d : Option Tmp) (v : Value) (i : Nat) : (s.put d v).get i = if d = some i ∧ i < s.n then v else s.get i := by
  cases d with
  | none => simp [Fr.put]
  | some t =>
    unfold Fr.put
    simp only
    cases h : Nat.blt t s.n with
    | true =>
      simp only [Fr.get, getL]
      have ht : t < s.n := by simpa [Nat.blt_eq] using h
      cases hb : Nat.beq t i with
      | true => have : t = i := Nat.eq_of_beq_eq_true hb; subst this; simp [ht]
      | false => have : t ≠ i := Nat.ne_of_beq_eq_false hb; simp [this]
    | false =>
      have ht : ¬ t < s.n := by
        intro hh
        have h2 : Nat.blt t s.n = true := by rw [Nat.blt_eq]; exact hh
        rw [h2] at h
        cases h
      simp only
      rw [if_neg]
      rintro ⟨e, hi⟩
      cases e
      exact ht hi

theorem fr_put_n (s : Fr) (d : Option Tmp) (v : Value) : (s.put d v).n = s.n := by
  cases d with
  | none => rfl
  | some t => unfold Fr.put; simp only; split <;> rfl

/-- the frame 's' knows of the frame 'a' what it does not call unknown -/
structure Sim (s : Fr) (a : Act) : Prop where
  defers : a.defers = []
  size : a.tmps.size = s.n
  slot : ∀ i, isU (s.get i) = false → a.tmps.getD i undef = s.get i

theorem Sim.eval {s : Fr} {a : Act} (h : Sim s a) {x : Operand} (hx : isU (s.eval x) = false) : a.eval x = s.eval x := by
  cases x with
  | tmp t => exact h.slot t hx
  | const v => rfl
  | global g => rfl
  | func f => rfl

theorem put_getD (a : Act) (d : Option Tmp) (v : Value) (i : Nat) :
    (a.put d v).tmps.getD i undef = if d = some i ∧ i < a.tmps.size then v else a.tmps.getD i undef := by
  cases d with
  | none => simp [Act.put]
  | some d =>
    simp only [Act.put, Option.some.injEq, Array.getD_eq_getD_getElem?]
    by_cases h : d = i
    · subst h
      by_cases hd : d < a.tmps.size
      · simp [hd]
      · simp [hd]
    · rw [Array.getElem?_setIfInBounds_ne h]; simp [h]

theorem put_size (a : Act) (d : Option Tmp) (v : Value) : (a.put d v).tmps.size = a.tmps.size := by cases d <;> simp [Act.put]
theorem put_defers (a : Act) (d : Option Tmp) (v : Value) : (a.put d v).defers = a.defers := by cases d <;> rfl

theorem Sim.put {s : Fr} {a : Act} (h : Sim s a) (d : Option Tmp) {u v : Value} (huv : isU u = false → v = u) : Sim (s.put d u) (a.put d v) := by
  refine ⟨by rw [put_defers]; exact h.defers, by rw [put_size, fr_put_n]; exact h.size, fun i hi => ?_⟩
  rw [fr_put_get] at hi ⊢
  rw [put_getD, h.size]
  split at hi
  · rename_i hc; rw [if_pos hc, if_pos hc]; exact huv hi
  · rename_i hc; rw [if_neg hc, if_neg hc]; exact h.slot i hi

theorem isU_unk : isU unk = true := rfl

/-- all that an operation looks at is known -/
def okOps (s : Fr) (o : Oper) : Bool := o.op.operands.toList.all fun x => !isU (s.eval x)
def notSel (o : Oper) : Bool := match o.op with | .select _ _ => false | _ => true

theorem exec_sim {s : Fr} {a : Act} (h : Sim s a) {o : Oper} (ho : okOps s o = true) (hs : notSel o = true) : execOp a.eval o = execOp s.eval o := by
  refine execOp_congr o (fun cs b e => by simp [notSel, e] at hs) fun x hx => h.eval ?_
  have := List.all_eq_true.1 ho x (by simpa using hx)
  simpa using this

/-! ### a region in the text's order -/

/-- a branch on what is known or not -/
def Br (c : Bool) (A B : Prop) : Prop := match c with | true => A | false => B
theorem Br.intro {c : Bool} {A B : Prop} (h1 : c = true → A) (h2 : c = false → B) : Br c A B := by cases c; exact h2 rfl; exact h1 rfl

def boolAt (s : Fr) (d : Option Tmp) : Option Bool :=
  match d with
  | some d => match getL d s.l with
    | .bool c => some c
    | _ => none
  | none => none

/-- ONE OPERATION in the frame 's' -/
def opK (P : Program) (wr : Bool) (ex : Nat → Option TypeId) (o : Oper) (s : Fr) (w : World) (K : Value → World → Prop) : Prop :=
  match o.op with
  | .pick c x y => match s.eval c with
    | .bool b => Br b (K (s.eval x) w) (K (s.eval y) w)
    | _ => False
  | _ => if okOps s o = true ∧ notSel o = true then
      match quietK P wr o s.eval w none fun v => K v w with
      | some p => p
      | none => match wr with
        | true => dynK P ex o s.eval w K
        | false => effK P ex o s.eval w K
    else False

/-- .. where it may hand on less than is known -/
def KMono (K : Value → World → Prop) (K' : Value → World → Prop) : Prop := ∀ v v' w, K v w → (isU v = false → v' = v) → K' v' w

theorem opK_sound {P : Program} {wr : Bool} {ex : Nat → Option TypeId} {o : Oper} {s : Fr} {a : Act} {w : World} {K K' : Value → World → Prop} (h : opK P wr ex o s w K) (hs : Sim s a) (hK : KMono K K') : goOn P K' ((execOp a.eval o).run P w) := by
  have mono : ∀ r, goOn P K r → goOn P K' r := by
    intro r hr
    cases r with
    | ok n w' =>
      cases n <;> simp only [goOn] at hr ⊢ <;> try exact hr
      · exact hK _ _ _ hr fun _ => rfl
      · exact hK _ _ _ hr fun _ => rfl
      · exact hr.mono fun e w'' ⟨v, he, hk⟩ => ⟨v, he, hK _ _ _ hk fun _ => rfl⟩
    | halt x w' => exact hr
  unfold opK at h
  split at h
  · rename_i c x y hop
    split at h
    · rename_i b hc
      have hc' : a.eval c = .bool b := by rw [hs.eval (by rw [hc]; rfl), hc]
      cases b with
      | true =>
        simp only [Br] at h
        simp only [execOp, hop, hc', asBool, Sem.run_bind, Sem.run_pure, Result.andThen, if_true, goOn]
        exact hK _ _ _ h fun hu => hs.eval hu
      | false =>
        simp only [Br] at h
        simp only [execOp, hop, hc', asBool, Sem.run_bind, Sem.run_pure, Result.andThen, goOn]
        exact hK _ _ _ h fun hu => hs.eval hu
    · exact h.elim
  · split at h
    · rename_i ho
      rw [exec_sim hs ho.1 ho.2]
      refine mono _ ?_
      split at h
      · rename_i p hp
        obtain ⟨v, h1, h2⟩ := quietK_sound hp h
        rw [h1 trivial w rfl]
        exact h2
      · split at h
        · exact dynK_sound h
        · exact effK_sound h
    · exact h.elim

/-- A REGION IN THE TEXT's ORDER; an operation under a guard parts the ways -/
def vcOps (P : Program) (wr : Nat → Bool) (sure : Bool) (ops : Array Oper) : List Oper → Fr → World → (Fr → World → Prop) → Prop
  | [], s, w, K => K s w
  | o :: rest, s, w, K =>
    match o.guard with
    | none => opK P (wr (o.dst.getD 0)) (fun i => extractsOf o.dst i ops.toList) o s w fun v w' => vcOps P wr sure ops rest (s.put o.dst v) w' K
    | some (j, want) =>
      let d := (ops[j]?).bind (·.dst)
      let go (b : Bool) (s : Fr) : Prop :=
        if b = want then opK P (wr (o.dst.getD 0)) (fun i => extractsOf o.dst i ops.toList) o s w fun v w' => vcOps P wr sure ops rest (s.put o.dst v) w' K
        else vcOps P wr sure ops rest (s.put o.dst undef) w K
      match boolAt s d with
      | some c => match sure with
        | true => c = want ∧ go want (s.put d (.bool want))
        | false => Br c (go true (s.put d (.bool true))) (go false (s.put d (.bool false)))
      | none => False

theorem Oper.wp_of_goOn {P : Program} {o : Oper} {a : Act} {w : World} {next : Act → World → Prop} {Q : Exit → Act → World → Prop}
    (h : goOn P (fun v w' => next (a.put o.dst v) w') ((execOp a.eval o).run P w)) : o.wp P a w next Q := by
  unfold Oper.wp
  generalize (execOp a.eval o).run P w = r at *
  cases r with
  | ok n w' =>
    cases n <;> simp only [goOn, Oper.upon] at h ⊢ <;> try exact h
    exact h.mono fun e w'' ⟨v, he, hk⟩ => by subst he; exact hk
  | halt x w' => exact h.elim

theorem boolAt_spec {s : Fr} {a : Act} (h : Sim s a) {d : Option Tmp} {c : Bool} (hc : boolAt s d = some c) : ∃ k, d = some k ∧ k < a.tmps.size ∧ a.tmps.getD k undef = .bool c ∧ s.get k = .bool c := by
  unfold boolAt at hc
  split at hc
  · rename_i k
    split at hc
    · rename_i c' hv
      cases hc
      have hv' : s.get k = .bool c := hv
      have e := h.slot k (by rw [hv']; rfl)
      refine ⟨k, rfl, ?_, by rw [e, hv'], hv'⟩
      rcases Nat.lt_or_ge k a.tmps.size with h' | h'
      · exact h'
      · rw [Array.getD_eq_getD_getElem?, Array.getElem?_eq_none h'] at e
        rw [hv'] at e
        cases e
    · cases hc
  · cases hc

theorem put_same {a : Act} {k : Nat} {v : Value} (h : k < a.tmps.size) (hv : a.tmps.getD k undef = v) : a.put (some k) v = a := by
  cases a with
  | mk t d =>
    simp only [Act.put]
    congr 1
    apply Array.ext
    · simp
    · intro i h1 h2
      rw [Array.getElem_setIfInBounds]
      split
      · rename_i e; subst e; simp at hv h; simpa [h] using hv.symm
      · rfl

/-- outside 'D' nothing is assigned, but knowledge may go -/
def Unch (D : Nat → Prop) (s s' : Fr) : Prop := s'.n = s.n ∧ ∀ i, ¬ D i → isU (s'.get i) = false → s'.get i = s.get i

theorem Unch.refl (D : Nat → Prop) (s : Fr) : Unch D s s := ⟨rfl, fun _ _ _ => rfl⟩
theorem Unch.trans {D : Nat → Prop} {a b c : Fr} (h : Unch D a b) (k : Unch D b c) : Unch D a c := ⟨k.1.trans h.1, fun i hi hu => by
  have e := k.2 i hi hu
  rw [e] at hu ⊢
  exact h.2 i hi hu⟩
theorem Unch.mono {D D' : Nat → Prop} {a b : Fr} (h : Unch D a b) (hD : ∀ i, D i → D' i) : Unch D' a b := ⟨h.1, fun i hi => h.2 i fun hd => hi (hD i hd)⟩
theorem Unch.put {D : Nat → Prop} {a b : Fr} (h : Unch D a b) {d : Option Tmp} (hd : ∀ t, d = some t → D t) (v : Value) : Unch D a (b.put d v) := by
  refine ⟨by rw [fr_put_n]; exact h.1, fun i hi => ?_⟩
  rw [fr_put_get, if_neg (by rintro ⟨e, _⟩; exact hi (hd i e))]
  exact h.2 i hi

theorem vcOps_sound {P : Program} {wr : Nat → Bool} {sure : Bool} {ops : Array Oper} {Q : Exit → Act → World → Prop} {K : Fr → World → Prop} {D : Nat → Prop} {s0 : Fr}
    (hD : ∀ (j : Nat) (o : Oper) (t : Nat), ops[j]? = some o → o.dst = some t → D t) (hK : ∀ s a w, K s w → Sim s a → Unch D s0 s → Q .normal a w) :
    ∀ (l : List Oper) (s : Fr) (a : Act) (w : World), (∀ o ∈ l, ∀ t, o.dst = some t → D t) → vcOps P wr sure ops l s w K → Sim s a → Unch D s0 s → wpList P ops Q l a w
  | [], s, a, w, _, h, hs, hu => hK _ _ _ h hs hu
  | o :: rest, s, a, w, hl, h, hs, hu => by
    have hl' : ∀ o ∈ rest, ∀ t, o.dst = some t → D t := fun o ho => hl o (List.mem_cons_of_mem _ ho)
    have ho : ∀ t, o.dst = some t → D t := hl o (by simp)
    have step : ∀ s', Sim s' a → Unch D s0 s' → (opK P (wr (o.dst.getD 0)) (fun i => extractsOf o.dst i ops.toList) o s' w fun v w' => vcOps P wr sure ops rest (s'.put o.dst v) w' K) →
        o.wp P a w (wpList P ops Q rest) Q := by
      intro s' hs' hu' h
      refine Oper.wp_of_goOn (opK_sound h hs' ?_)
      intro v v' w' hk hv
      exact vcOps_sound hD hK rest _ _ _ hl' hk (hs'.put _ hv) (hu'.put ho _)
    unfold vcOps at h
    unfold wpList
    split at h
    · rename_i hg
      rw [if_pos (by simp [Region.wanted, hg])]
      exact .inl (step s hs hu h)
    · rename_i j want hg
      simp only at h
      split at h
      · rename_i c hc
        obtain ⟨k, hk, hlt, hv, hsv⟩ := boolAt_spec hs hc
        have hy : yielded ops a.tmps j = some c := by
          unfold yielded
          rw [hk]
          simp only [Option.bind_some]
          rw [Array.getD_eq_getD_getElem?] at hv
          simp only [hlt, getElem?_pos, Option.getD_some] at hv
          simp [hlt, hv]
        have hw : Region.wanted o (yielded ops a.tmps) = (c == want) := by simp [Region.wanted, hg, hy]
        have hs' : Sim (s.put ((ops[j]?).bind (·.dst)) (.bool c)) a := by
          have := hs.put ((ops[j]?).bind (·.dst)) (u := .bool c) (v := .bool c) (fun _ => rfl)
          rw [hk] at this ⊢
          rwa [put_same hlt hv] at this
        have hu' : ∀ v, Unch D s0 (s.put ((ops[j]?).bind (·.dst)) v) := fun v => hu.put (by
          intro t ht
          cases hj : ops[j]? with
          | none => simp [hj] at ht
          | some oj => rw [hj] at ht; exact hD j oj t hj ht) v
        rw [hw]
        cases sure with
        | true =>
          obtain ⟨hcw, h⟩ := h
          subst hcw
          simp only [if_true] at h
          rw [if_pos (by simp)]
          exact .inl (step _ hs' (hu' _) h)
        | false =>
        simp only at h
        cases c <;> simp only [Br] at h
        · by_cases e : false = want
          · rw [if_pos e] at h
            rw [if_pos (by simp [e])]
            exact .inl (step _ hs' (hu' _) h)
          · rw [if_neg e] at h
            rw [if_neg (by simpa using e)]
            exact vcOps_sound hD hK rest _ _ _ hl' h (hs'.put _ (fun _ => rfl)) ((hu' _).put ho _)
        · by_cases e : true = want
          · rw [if_pos e] at h
            rw [if_pos (by simp [e])]
            exact .inl (step _ hs' (hu' _) h)
          · rw [if_neg e] at h
            rw [if_neg (by simpa using e)]
            exact vcOps_sound hD hK rest _ _ _ hl' h (hs'.put _ (fun _ => rfl)) ((hu' _).put ho _)
      · exact h.elim

end Go.Vc
