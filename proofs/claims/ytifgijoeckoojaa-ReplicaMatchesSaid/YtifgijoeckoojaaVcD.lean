/-
  THE CONDITIONS OF A WALK AS ONE FORMULA: one operation.
-/
import Derived.Test.YtifgijoeckoojaaVcC
import Derived.Laws.StructEq
set_option linter.unusedVariables false
set_option linter.unusedSimpArgs false
namespace Go.Vc
open Go.RowKit

/-- a result of a type: a tuple's parts, or one value -/
def resK (P : Program) (t : TypeId) (K : Value → Prop) : Prop :=
  match P.underlying t with
  | some (.tuple ts) => shapesK P ts.toList fun vs => K (.tuple vs.toArray)
  | _ => shapeK P t K

theorem resK_some {P : Program} {t : TypeId} {K : Value → Prop} (h : resK P t K) : ∃ v, K v := by
  unfold resK at h
  split at h
  · obtain ⟨vs, h⟩ := shapesK_some h; exact ⟨_, h⟩
  · exact shapeK_some h

/-- it stands for what is not known -/
def unk : Value := .tuple #[.nilFunc]

/-- nothing is known of a slot that holds this -/
def isU : Value → Bool
  | .tuple vs => (match vs.toList with | [.nilFunc] => true | _ => false)
  | _ => false

def foldMax (k : IntKind) : Int → List Value → Option Int
  | x, [] => some x
  | x, .int k' y :: r => if k = k' then foldMax k (max x y) r else none
  | _, _ => none
def foldMin (k : IntKind) : Int → List Value → Option Int
  | x, [] => some x
  | x, .int k' y :: r => if k = k' then foldMin k (min x y) r else none
  | _, _ => none

/-- builtins that only look at values -/
def vcBuiltin (P : Program) (b : Builtin) (ts : Array TypeId) (args : List Value) (K : Value → Prop) : Option Prop :=
  match b, args with
  | .len, [.slice _ n _] => match ts[0]? with
    | some t => match P.underlying t with | some (.slice _) => some (K (.int .i64 n)) | _ => none
    | none => none
  | .len, [.string s] => match ts[0]? with
    | some t => match P.underlying t with | some .string => some (K (.int .i64 s.size)) | _ => none
    | none => none
  | .cap, [.slice _ _ n] => match ts[0]? with
    | some t => match P.underlying t with | some (.slice _) => some (K (.int .i64 n)) | _ => none
    | none => none
  | .len, [_] => match ts[0]? with
    | some t => match P.underlying t with | some (.array n _) => some (K (.int .i64 n)) | _ => none
    | none => none
  | .max, .int k x :: r => match foldMax k x r with | some n => some (K (.int k n)) | none => none
  | .min, .int k x :: r => match foldMin k x r with | some n => some (K (.int k n)) | none => none
  | _, _ => none

theorem foldMax_run {P : Program} {k : IntKind} {w : World} : ∀ {l : List Value} {x n : Int}, foldMax k x l = some n → ((l.foldlM Builtin.max2 (.int k x) : Sem Value)).run P w = .ok (.int k n) w
  | [], x, n, h => by simp [foldMax] at h; subst h; simp
  | v :: r, x, n, h => by
    cases v <;> simp [foldMax] at h
    obtain ⟨rfl, h⟩ := h
    rename_i y
    have ih := foldMax_run (P := P) (w := w) h
    simp only [List.foldlM_cons, Builtin.max2, Sem.run_bind, Sem.run_pure, Result.andThen]
    have e : (if y > x then y else x) = max x y := by
      rw [Int.max_def]; split <;> split <;> omega
    rw [e]; exact ih
theorem foldMin_run {P : Program} {k : IntKind} {w : World} : ∀ {l : List Value} {x n : Int}, foldMin k x l = some n → ((l.foldlM Builtin.min2 (.int k x) : Sem Value)).run P w = .ok (.int k n) w
  | [], x, n, h => by simp [foldMin] at h; subst h; simp
  | v :: r, x, n, h => by
    cases v <;> simp [foldMin] at h
    obtain ⟨rfl, h⟩ := h
    rename_i y
    have ih := foldMin_run (P := P) (w := w) h
    simp only [List.foldlM_cons, Builtin.min2, Sem.run_bind, Sem.run_pure, Result.andThen]
    have e : (if y < x then y else x) = min x y := by
      rw [Int.min_def]; split <;> split <;> omega
    rw [e]; exact ih

theorem vcBuiltin_sound {P : Program} {b : Builtin} {ts : Array TypeId} {t : TypeId} {cs : Array Bool} {args : Array Value} {K : Value → Prop} {p : Prop} (h : vcBuiltin P b ts args.toList K = some p) (hp : p) :
    ∃ v, (∀ w, (builtin b ts t cs args).run P w = .ok (.value v) w) ∧ K v := by
  obtain ⟨args⟩ := args
  simp only at h
  unfold vcBuiltin at h
  split at h
  case h_7 => cases h
  case h_5 =>
    split at h
    · rename_i hf; cases h; exact ⟨_, fun w => by simp [builtin, Builtin.max_, foldMax_run hf, Result.andThen], hp⟩
    · cases h
  case h_6 =>
    split at h
    · rename_i hf; cases h; exact ⟨_, fun w => by simp [builtin, Builtin.min_, foldMin_run hf, Result.andThen], hp⟩
    · cases h
  all_goals
    split at h
    · rename_i ht
      split at h
      · rename_i hu
        cases h
        refine ⟨_, fun w => ?_, hp⟩
        first
          | (simp [builtin, Builtin.len_, ht, run_underlying hu, Result.andThen, goInt]; done)
          | (simp [builtin, Builtin.cap_, ht, run_underlying hu, Result.andThen, goInt]; done)
      · cases h
    · cases h

/-- comparing with nil -/
def vcNil (P : Program) (op : BinOp) (t : TypeId) (x y : Value) (K : Value → Prop) : Option Prop :=
  match op, P.underlying t, x, y with
  | .eql, some (.pointer _), .pointer p, .pointer none => some (K (.bool p.isNone))
  | .neq, some (.pointer _), .pointer p, .pointer none => some (K (.bool (!p.isNone)))
  | .eql, some (.slice _), .slice p _ _, .slice none _ _ => some (K (.bool p.isNone))
  | .neq, some (.slice _), .slice p _ _, .slice none _ _ => some (K (.bool (!p.isNone)))
  | .eql, some .bool, .bool a, .bool b => some (K (.bool (a == b)))
  | .neq, some .bool, .bool a, .bool b => some (K (.bool (a != b)))
  | _, _, _, _ => none

theorem vcNil_sound {P : Program} {op : BinOp} {t : TypeId} {ox oy : Operand} {x y : Value} {K : Value → Prop} {p : Prop} (h : vcNil P op t x y K = some p) (hp : p) :
    ∃ v, (∀ w, (do eqGuard op t ox oy x y; binOp op t x y : Sem Value).run P w = .ok v w) ∧ K v := by
  unfold vcNil at h
  split at h
  case h_7 => cases h
  all_goals
    cases h
    refine ⟨_, fun w => ?_, hp⟩
    rename_i ht
    simp only [eqGuard, binOp, Sem.run_bind, Sem.run_pure, Result.andThen, Op.equal, Op.maxDepth]
    rw [show (10000 : Nat) = 9999 + 1 from rfl]
    unfold Op.equalIn
    simp only [Sem.run_bind, run_underlying ht, Result.andThen, Sem.run_pure]
  case h_1 q => cases q <;> simp
  case h_2 q => cases q <;> simp
  case h_3 q _ _ _ _ => cases q <;> simp
  case h_4 q _ _ _ _ => cases q <;> simp
  case h_5 => simp
  case h_6 => simp [bne]

/-- two structs of plain fields, compared -/
def eqFlat (P : Program) (xs ys : Array Value) : List Field → Option Bool
  | [] => some true
  | f :: fs => match f.name == "_" with
    | true => none
    | false => match P.underlying f.type, xs[f.offset]?, ys[f.offset]?, eqFlat P xs ys fs with
      | some (.int _), some (.int k a), some (.int k' b), some r => if k = k' then some (decide (a = b) && r) else none
      | some .bool, some (.bool a), some (.bool b), some r => some ((a == b) && r)
      | some .string, some (.string a), some (.string b), some r => some (decide (a = b) && r)
      | _, _, _, _ => none

theorem eqFlat_run {P : Program} {w : World} {d : Nat} {xs ys : Array Value} : ∀ {fs : List Field} {r : Bool}, eqFlat P xs ys fs = some r → (Op.eqFields (d + 1) xs ys fs).run P w = .ok r w
  | [], r, h => by simp [eqFlat] at h; subst h; simp [Op.eqFields]
  | f :: fs, r, h => by
    unfold eqFlat at h
    split at h
    · cases h
    · rename_i hname
      have hname : f.name ≠ "_" := by simpa using hname
      unfold Op.eqFields
      rw [if_pos hname]
      have go : ∀ {t : TypeDesc} {a b : Value} {c r' : Bool}, P.underlying f.type = some t → aggD t = false → xs[f.offset]? = some a → ys[f.offset]? = some b → (Op.equalIn (d + 1) f.type a b).run P w = .ok c w → eqFlat P xs ys fs = some r' →
          (do let a ← part f.type xs f.offset; let b ← part f.type ys f.offset; let r ← Op.equalIn (d + 1) f.type a b; if (!r) = true then pure false else Op.eqFields (d + 1) xs ys fs : Sem Bool).run P w = .ok (c && r') w := by
        intro t a b c r' ht ha hx hy he hr
        have ih := eqFlat_run (w := w) (d := d) hr
        simp only [Sem.run_bind, run_part_one ht ha hx, run_part_one ht ha hy, Result.andThen, he]
        cases c <;> simp [ih]
      split at h
      · rename_i ht hx hy hr
        split at h
        · rename_i hk
          subst hk
          cases h
          exact go ht rfl hx hy (by rw [run_equalIn_int w d f.type _ _ _ _ ht]; congr 1) hr
        · cases h
      · rename_i ht hx hy hr
        cases h
        exact go ht rfl hx hy (run_equalIn_bool' w d f.type _ _ ht) hr
      · rename_i ht hx hy hr
        cases h
        exact go ht rfl hx hy (by rw [run_equalIn_string w d f.type _ _ ht, bytes_eq]) hr
      · cases h

/-- may structs of this type be compared cell by cell? -/
def okAgg (P : Program) (t : TypeId) : Bool := !P.stoodInHeld t && !P.eqGuardType P.depth t

def vcAgg (P : Program) (op : BinOp) (t : TypeId) (x y : Value) (K : Value → Prop) : Option Prop :=
  match op, x, y with
  | .eql, .agg xs, .agg ys => match P.underlying t with
    | some (.struct fs) => match eqFlat P xs ys fs.toList with
      | some r => some (okAgg P t = true ∧ K (.bool r))
      | none => none
    | _ => none
  | .neq, .agg xs, .agg ys => match P.underlying t with
    | some (.struct fs) => match eqFlat P xs ys fs.toList with
      | some r => some (okAgg P t = true ∧ K (.bool (!r)))
      | none => none
    | _ => none
  | _, _, _ => none

theorem vcAgg_sound {P : Program} {op : BinOp} {t : TypeId} {ox oy : Operand} {x y : Value} {K : Value → Prop} {p : Prop} (h : vcAgg P op t x y K = some p) (hp : p) :
    ∃ v, (∀ w, (do eqGuard op t ox oy x y; binOp op t x y : Sem Value).run P w = .ok v w) ∧ K v := by
  have key : ∀ {xs ys : Array Value} {fs : Array Field} {r : Bool} (w : World), P.underlying t = some (.struct fs) → P.stoodInHeld t = false → eqFlat P xs ys fs.toList = some r → (Op.equalIn 10000 t (.agg xs) (.agg ys)).run P w = .ok r w := by
    intro xs ys fs r w ht hs hr
    have hf : P.fieldsOf t = fs := by simp [Program.fieldsOf, ht]
    rw [show (10000 : Nat) = 9999 + 1 from rfl, run_equalIn_struct w 9999 t xs ys (by rw [hf]; exact ht) hs, hf]
    exact eqFlat_run hr
  have ok : okAgg P t = true → P.stoodInHeld t = false ∧ P.eqGuardType P.depth t = false := fun h => by simpa [okAgg] using h
  unfold vcAgg at h
  split at h
  · split at h
    · rename_i fs ht
      split at h
      · rename_i r hr
        cases h
        obtain ⟨h0, hp⟩ := hp
        obtain ⟨hs, hg⟩ := ok h0
        refine ⟨_, fun w => ?_, hp⟩
        rw [Sem.run_bind, run_eqGuard_agg w .eql t ox oy _ _ hg]
        simp only [Result.andThen]
        rw [run_eql_struct, key w ht hs hr]
        rfl
      · cases h
    · cases h
  · split at h
    · rename_i fs ht
      split at h
      · rename_i r hr
        cases h
        obtain ⟨h0, hp⟩ := hp
        obtain ⟨hs, hg⟩ := ok h0
        refine ⟨_, fun w => ?_, hp⟩
        rw [Sem.run_bind, run_eqGuard_agg w .neq t ox oy _ _ hg]
        simp only [Result.andThen]
        rw [run_neq_struct, key w ht hs hr]
        rfl
      · cases h
    · cases h
  · cases h

theorem mapA {α β : Type} (f : α → β) (a : Array α) : (a.toList.map f).toArray = a.map f := by apply Array.ext'; simp

def zeroOf (P : Program) (t : TypeId) : Option Value := (P.info? t).bind (·.zero)

theorem run_zero {P : Program} {t : TypeId} {z : Value} {w : World} (h : zeroOf P t = some z) : (zeroValue t).run P w = .ok z w := by
  unfold zeroOf at h
  cases hi : P.info? t with
  | none => simp [hi] at h
  | some i =>
    simp [hi] at h
    simp [zeroValue, typeInfo, hi, h]

theorem range_zero : Array.range 0 = #[] := Array.ext (by simp) (by simp)

/-- a list, made out to its end before it is handed on -/
def forceL {α : Type _} : List Value → (List Value → α) → α
  | [], K => K []
  | x :: r, K => forceL r fun r' => K (x :: r')
theorem forceL_eq {α : Type _} : ∀ (l : List Value) (K : List Value → α), forceL l K = K l
  | [], _ => rfl
  | x :: r, K => by unfold forceL; rw [forceL_eq r]

/-- the cells of a struct or an array out of its parts -/
def fillL (place : Nat → Option (Nat × Nat)) (cells : List Value) : List (Nat × Value) → Option (List Value)
  | [] => some cells
  | (i, v) :: rest =>
    match place i with
    | none => none
    | some (off, size) =>
      match Nat.beq v.cells.toList.length size && Nat.ble (off + v.cells.toList.length) cells.length with
      | true => forceL (cells.take off ++ v.cells.toList ++ cells.drop (off + size)) fun cells => fillL place cells rest
      | false => none

theorem foldl_set (off : Nat) : ∀ (vs : List Value) (k : Nat) (cs : Array Value), off + k + vs.length ≤ cs.size →
    (vs.zipIdx k).foldl (fun cs (p : Value × Nat) => cs.setIfInBounds (off + p.2) p.1) cs = (cs.toList.take (off + k) ++ vs ++ cs.toList.drop (off + k + vs.length)).toArray
  | [], k, cs, _ => by apply Array.ext'; simp
  | v :: vs, k, cs, h => by
    simp only [List.length_cons] at h
    rw [List.zipIdx_cons, List.foldl_cons, foldl_set off vs (k + 1) _ (by simp; omega)]
    apply Array.ext'
    have hlt : off + k < cs.toList.length := by simp; omega
    have e1 : (cs.toList.set (off + k) v).take (off + (k + 1)) = cs.toList.take (off + k) ++ [v] := by
      rw [show off + (k + 1) = off + k + 1 by omega, List.take_succ_eq_append_getElem (by simpa using hlt)]
      simp [List.take_set_of_le]
    have e2 : (cs.toList.set (off + k) v).drop (off + (k + 1) + vs.length) = cs.toList.drop (off + k + (vs.length + 1)) := by
      rw [List.drop_set_of_lt (by omega)]
      congr 1
      omega
    simp only [Array.toList_setIfInBounds, e1, e2, List.length_cons]
    simp

theorem fillL_sound {place : Nat → Option (Nat × Nat)} : ∀ {parts : List (Nat × Value)} {cells cs : List Value}, fillL place cells parts = some cs → Instr.fill place cells.toArray parts = some cs.toArray
  | [], _, _, h => by simp [fillL] at h; simp [Instr.fill, h]
  | (i, v) :: rest, cells, cs, h => by
    unfold fillL at h
    unfold Instr.fill
    split at h
    · cases h
    · rename_i off size hp
      split at h
      · rename_i hc
        rw [forceL_eq] at h
        simp only [Bool.and_eq_true] at hc
        have h1 : v.cells.toList.length = size := Nat.eq_of_beq_eq_true hc.1
        have h2 : off + v.cells.toList.length ≤ cells.length := Nat.le_of_ble_eq_true hc.2
        have ih := fillL_sound h
        have h1' : v.cells.size = size := by simpa using h1
        have h2' : off + v.cells.size ≤ cells.length := by simpa using h2
        rw [hp]
        simp only
        rw [if_neg (by simp; omega)]
        have e : v.cells.zipIdx.foldl (fun cs (x : Value × Nat) => match x with | (c, j) => cs.setIfInBounds (off + j) c) cells.toArray = (cells.take off ++ v.cells.toList ++ cells.drop (off + size)).toArray := by
          have := foldl_set off v.cells.toList 0 cells.toArray (by simpa using h2')
          rw [← Array.foldl_toList, Array.toList_zipIdx]
          simp only [Nat.add_zero, h1] at this
          exact this
        rw [e]
        exact ih
      · cases h

/-- so many zero values in a row -/
def zeros (n : Nat) (z : List Value) : List Value := (List.replicate n z).flatten

theorem zeros_eq (n : Nat) (z : Array Value) : (Array.range (n * z.size)).map (z[· % z.size]!) = (zeros n z.toList).toArray := by
  apply Array.ext'
  apply List.ext_getElem?
  intro i
  by_cases h0 : z.size = 0
  · have : z.toList = [] := by cases z; simp_all
    simp [zeros, this, h0]
  have key : ∀ (n i : Nat), (zeros n z.toList)[i]? = if i < n * z.size then z.toList[i % z.size]? else none := by
    intro n
    induction n with
    | zero => intro i; simp [zeros]
    | succ n ih =>
      intro i
      have e : zeros (n + 1) z.toList = z.toList ++ zeros n z.toList := by simp [zeros, List.replicate_succ]
      rw [e, List.getElem?_append, ih]
      simp only [Array.length_toList]
      by_cases h1 : i < z.size
      · rw [if_pos h1, if_pos (by rw [Nat.succ_mul]; omega), Nat.mod_eq_of_lt h1]
      · rw [if_neg h1]
        have e2 : (i - z.size) % z.size = i % z.size := (Nat.mod_eq_sub_mod (Nat.le_of_not_lt h1)).symm
        rw [e2]
        by_cases h2 : i - z.size < n * z.size
        · rw [if_pos h2, if_pos (by rw [Nat.succ_mul]; omega)]
        · rw [if_neg h2, if_neg (by rw [Nat.succ_mul]; omega)]
  rw [key]
  simp only [Array.toList_map, Array.toList_range, List.getElem?_map, List.getElem?_range]
  by_cases h : i < n * z.size
  · have hm : i % z.size < z.size := Nat.mod_lt _ (by omega)
    simp [h, hm]
  · simp [h]

/-- a struct's or an array's literal -/
def vcBuild (P : Program) (t : TypeId) (parts : List (Nat × Value)) (K : Value → Prop) : Prop :=
  match P.underlying t, zeroOf P t with
  | some (.struct fs), some z =>
    match fillL (fun i => match fs[i]? with | some f => (match P.info? f.type with | some x => some (f.offset, x.size) | none => none) | none => none) z.cells.toList parts, fs.toList.all (fun f => (P.info? f.type).isSome) with
    | some cs, true => K (.agg cs.toArray)
    | _, _ => False
  | some (.array _ e), some z =>
    match P.info? e with
    | some x => match fillL (fun i => some (i * x.size, x.size)) z.cells.toList parts with
      | some cs => K (.agg cs.toArray)
      | none => False
    | none => False
  | _, _ => False

theorem run_places {P : Program} {w : World} : ∀ (l : List Field), l.all (fun f => (P.info? f.type).isSome) = true →
    (l.mapM fun f => (do pure (f.offset, ← sizeOf f.type) : Sem (Nat × Nat))).run P w = .ok (l.map fun f => (f.offset, sizeT P f.type)) w
  | [], _ => by simp
  | f :: r, h => by
    simp only [List.all_cons, Bool.and_eq_true] at h
    obtain ⟨x, hx⟩ := Option.isSome_iff_exists.1 h.1
    have ih := run_places (P := P) (w := w) r h.2
    rw [List.mapM_cons]
    simp only [Sem.run_bind, run_sizeOf hx, Result.andThen, Sem.run_pure, ih, List.map_cons]
    simp [sizeT, hx]

theorem fillL_congr {p q : Nat → Option (Nat × Nat)} (h : ∀ i, p i = q i) (c : List Value) (l : List (Nat × Value)) : fillL p c l = fillL q c l := by
  have : p = q := funext h
  rw [this]

theorem vcBuild_all {P : Program} {t : TypeId} {parts : Array (Nat × Value)} {K : Value → Prop} (h : vcBuild P t parts.toList K) :
    ∃ v, (∀ w, (Instr.build t parts).run P w = .ok v w) ∧ K v := by
  unfold vcBuild at h
  split at h
  · rename_i fs z ht hz
    split at h
    · rename_i cs hf hall
      refine ⟨_, fun w => ?_, h⟩
      have hpl := run_places (P := P) (w := w) fs.toList hall
      have hfill : fillL (fun i => (fs.toList.map fun f => (f.offset, sizeT P f.type)).toArray[i]?) z.cells.toList parts.toList = some cs := by
        rw [← hf]
        apply fillL_congr
        intro i
        simp only [List.getElem?_toArray, List.getElem?_map, Array.getElem?_toList]
        cases hi : fs[i]? with
        | none => rfl
        | some f =>
          have hm : f ∈ fs.toList := by simpa using Array.mem_of_getElem? hi
          obtain ⟨x, hx⟩ := Option.isSome_iff_exists.1 (List.all_eq_true.1 hall f hm)
          simp [sizeT, hx]
      have := fillL_sound hfill
      unfold Instr.build
      rw [Sem.run_bind, run_zero hz]
      simp only [Result.andThen]
      rw [Sem.run_bind, run_underlying ht]
      simp only [Result.andThen]
      rw [Sem.run_bind, Array.mapM_eq_mapM_toList, map_eq_pure_bind, Sem.run_bind, hpl]
      simp only [Result.andThen, Sem.run_pure]
      rw [show z.cells = z.cells.toList.toArray by simp, this]
      rfl
    · exact h.elim
  · rename_i len e z ht hz
    split at h
    · rename_i x hx
      split at h
      · rename_i cs hf
        refine ⟨_, fun w => ?_, h⟩
        have := fillL_sound hf
        unfold Instr.build
        rw [Sem.run_bind, run_zero hz]
        simp only [Result.andThen]
        rw [Sem.run_bind, run_underlying ht]
        simp only [Result.andThen]
        rw [Sem.run_bind, run_sizeOf hx]
        simp only [Result.andThen]
        rw [show z.cells = z.cells.toList.toArray by simp, this]
        rfl
      · exact h.elim
    · exact h.elim
  · exact h.elim

theorem vcBuild_sound {P : Program} {t : TypeId} {parts : Array (Nat × Value)} {w : World} {K : Value → Prop} (h : vcBuild P t parts.toList K) :
    ∃ v, (Instr.build t parts).run P w = .ok v w ∧ K v :=
  let ⟨v, h1, h2⟩ := vcBuild_all h
  ⟨v, h1 w, h2⟩

/-- ONE OPERATION THAT ONLY READS, under a guard 'g'; none: it is no such operation -/
def quietK (P : Program) (wr : Bool) (o : Oper) (ρ : Operand → Value) (w : World) (g : Option Bool) (K : Value → Prop) : Option Prop :=
  match o.op with
  | .move x => some (K (ρ x))
  | .assign x => some (K (ρ x))
  | .load t x => match ρ x with
    | .pointer (some ⟨b, off, none⟩) => some (vcLoadG P t w g b off K)
    | _ => none
  | .nilCheck x => match ρ x with
    | .pointer p => some (ptrK g p fun b off => K (.pointer (some ⟨b, off, none⟩)))
    | .func (.func f) a b => some (K (.func (.func f) a b))
    | _ => none
  | .binOp op t x y _ =>
    match vBin wr g op (ρ x) (ρ y) K with
    | some p => some p
    | none => match vcNil P op t (ρ x) (ρ y) K with
      | some p => some p
      | none => match vcAgg P op t (ρ x) (ρ y) K with
      | some p => some p
      | none => match op with
        | .eql | .neq => some (∃ b : Bool, ob g (∀ w', (do eqGuard op t x y (ρ x) (ρ y); binOp op t (ρ x) (ρ y) : Sem Value).run P w' = .ok (.bool b) w') ∧ K (.bool b))
        | _ => some (resK P o.type fun v => ob g (∀ w', (binOp op t (ρ x) (ρ y)).run P w' = .ok v w') ∧ K v)
  | .unOp op _ x => match op, ρ x with
    | .not, .bool b => some (K (.bool (!b)))
    | .neg, .int k n => some (ari wr g k (0 - n) K)
    | _, _ => none
  | .convert src dst x => match P.underlying src, P.underlying dst, ρ x with
    | some _, some (.int k), .int k' n => if k = k' then some (ob g (k.wrap n = n) ∧ K (.int k n)) else some (K (.int k (k.wrap n)))
    | some .string, some .string, .string s => some (K (.string s))
    | _, _, _ => none
  | .fieldAddr t x f => vcFieldAddr P t (ρ x) f K
  | .field t x f => vcField P t (ρ x) f K
  | .indexAddr t x i => vcIndexAddr P g t (ρ x) (ρ i) K
  | .index t x i => vcIndex P g t (ρ x) (ρ i) K
  | .slice t x lo hi none => vcSlice P g t (ρ x) (lo.map ρ) (hi.map ρ) K
  | .extract x i => match ρ x with
    | .tuple vs => match vs[i]? with
      | some v => some (K v)
      | none => none
    | _ => none
  | .makeInterface t x => match P.underlying t with
    | some (.interface _) => none
    | some _ => some (K (.iface t (ρ x)))
    | none => none
  | .makeFunc fn a b => some (K (.func fn (a.toList.map ρ).toArray (b.toList.map ρ).toArray))
  | .lookup t m k ok => some (resK P o.type fun v => ob g (∀ w', w'.heap = w.heap → (Instr.lookup t (ρ m) (ρ k) ok).run P w' = .ok v w') ∧ K v)
  | .call c => match c.callee with
    | .builtin b => match vcBuiltin P b c.argTypes (c.args.toList.map ρ) K with
      | some p => some p
      | none => match b with
        | .len => some (∃ n : Int, ob g (∀ w', w'.heap = w.heap → (Builtin.len_ c.argTypes o.type (c.args.toList.map ρ).toArray).run P w' = .ok (.int .i64 n) w') ∧ K (.int .i64 n))
        | _ => none
    | _ => none
  | .build t parts => some (vcBuild P t (parts.toList.map fun p => (p.1, ρ p.2)) K)
  | _ => none

/-- does what it yields hang on the world? -/
def heapOp (P : Program) (o : Oper) (ρ : Operand → Value) (K : Value → Prop) : Bool :=
  match o.op with
  | .load .. => true
  | .lookup .. => true
  | .call c => match c.callee with
    | .builtin b => match vcBuiltin P b c.argTypes (c.args.toList.map ρ) K with
      | some _ => false
      | none => true
    | _ => true
  | _ => false

theorem quietK_sound' {P : Program} {wr : Bool} {o : Oper} {ρ : Operand → Value} {w : World} {g : Option Bool} {K : Value → Prop} {p : Prop} (h : quietK P wr o ρ w g K = some p) (hp : p) :
    ∃ v, (gOn g → ∀ w', (heapOp P o ρ K = true → w'.heap = w.heap) → (execOp ρ o).run P w' = .ok (.value v) w') ∧ K v := by
  unfold quietK at h
  split at h
  case h_1 x hop => cases h; exact ⟨_, fun _ w' _ => by simp [execOp, hop], hp⟩
  case h_2 x hop => cases h; exact ⟨_, fun _ w' _ => by simp [execOp, hop], hp⟩
  case h_3 t x hop =>
    split at h
    · rename_i b off hx
      cases h
      obtain ⟨v, h1, h2⟩ := vcLoadG_sound hp
      exact ⟨v, fun hg w' hw => by simp [execOp, hop, hx, Instr.loadAt, Instr.sureAddr, h1 hg w' (hw (by simp [heapOp, hop])), Result.andThen], h2⟩
    · cases h
  case h_4 x hop =>
    split at h
    · rename_i q hx
      cases h
      obtain ⟨b, off, h1, h2⟩ := ptrK_out hp
      exact ⟨_, fun hg w' hw => by have := ob_out h1 hg; subst this; simp [execOp, hop, hx], h2⟩
    · rename_i f a b hx
      cases h
      exact ⟨_, fun hg w' hw => by simp [execOp, hop, hx], hp⟩
    · cases h
  case h_5 op t x y ty hop =>
    split at h
    · rename_i q hq
      cases h
      obtain ⟨v, h1, h2⟩ := vBin_sound (P := P) (t := t) (ox := x) (oy := y) hq hp
      refine ⟨v, fun hg w' _ => ?_, h2⟩
      have := h1 hg w'
      simp only [execOp, hop]
      rw [Sem.run_bind, this]
      rfl
    · split at h
      · rename_i q hq
        cases h
        obtain ⟨v, h1, h2⟩ := vcNil_sound (P := P) (ox := x) (oy := y) hq hp
        refine ⟨v, fun hg w' _ => ?_, h2⟩
        simp only [execOp, hop]
        rw [Sem.run_bind, h1 w']
        rfl
      · split at h
        · rename_i q hq
          cases h
          obtain ⟨v, h1, h2⟩ := vcAgg_sound (P := P) (ox := x) (oy := y) hq hp
          refine ⟨v, fun hg w' _ => ?_, h2⟩
          simp only [execOp, hop]
          rw [Sem.run_bind, h1 w']
          rfl
        split at h
        · cases h
          obtain ⟨b, h1, h2⟩ := hp
          refine ⟨_, fun hg w' _ => ?_, h2⟩
          simp only [execOp, hop]
          rw [Sem.run_bind, ob_out h1 hg w']
          rfl
        · cases h
          obtain ⟨b, h1, h2⟩ := hp
          refine ⟨_, fun hg w' _ => ?_, h2⟩
          simp only [execOp, hop]
          rw [Sem.run_bind, ob_out h1 hg w']
          rfl
        · rename_i hne1 hne2
          cases h
          obtain ⟨v, h1, h2⟩ := resK_some hp
          refine ⟨v, fun hg w' _ => ?_, h2⟩
          have h3 := ob_out h1 hg w'
          have h4 : (eqGuard op t x y (ρ x) (ρ y)).run P w' = .ok () w' := by
            cases op <;> first | exact absurd rfl hne1 | exact absurd rfl hne2 | simp [eqGuard]
          simp only [execOp, hop]
          rw [Sem.run_bind, Sem.run_bind, h4]
          simp only [Result.andThen, h3]
          rfl
  case h_6 op t x hop =>
    split at h
    · rename_i b hx; cases h; exact ⟨_, fun _ w' _ => by simp [execOp, hop, hx, Op.unary, Result.andThen], hp⟩
    · rename_i k n hx
      cases h
      obtain ⟨v, h1, h2⟩ := ari_sound hp
      exact ⟨v, fun hg w' _ => by rw [h1 hg]; simp [execOp, hop, hx, Op.unary, Op.intArith, Result.andThen], h2⟩
    · cases h
  case h_7 src dst x hop =>
    split at h
    · rename_i d k k' n hs hd hx
      split at h
      · rename_i hk
        subst hk
        cases h
        obtain ⟨h1, h2⟩ := hp
        refine ⟨_, fun hg w' _ => ?_, h2⟩
        have h3 := ob_out h1 hg
        simp [execOp, hop, hx, convert, run_underlying hs, run_underlying hd, Conv.intToInt, Result.andThen, h3]
      · cases h
        exact ⟨_, fun hg w' _ => by simp [execOp, hop, hx, convert, run_underlying hs, run_underlying hd, Conv.intToInt, Result.andThen], hp⟩
    · rename_i s hs hd hx
      cases h
      exact ⟨_, fun hg w' _ => by simp [execOp, hop, hx, convert, run_underlying hs, run_underlying hd, Result.andThen], hp⟩
    · cases h
  case h_8 t x f hop =>
    obtain ⟨v, h1, h2⟩ := vcFieldAddr_sound h hp
    exact ⟨v, fun _ w' _ => by simp [execOp, hop, h1 w', Result.andThen], h2⟩
  case h_9 t x f hop =>
    obtain ⟨v, h1, h2⟩ := vcField_sound h hp
    exact ⟨v, fun _ w' _ => by simp [execOp, hop, h1 w', Result.andThen], h2⟩
  case h_10 t x i hop =>
    obtain ⟨v, h1, h2⟩ := vcIndexAddr_sound h hp
    exact ⟨v, fun hg w' _ => by simp [execOp, hop, h1 hg w', Result.andThen], h2⟩
  case h_11 t x i hop =>
    obtain ⟨v, h1, h2⟩ := vcIndex_sound h hp
    exact ⟨v, fun hg w' _ => by simp [execOp, hop, h1 hg w', Result.andThen], h2⟩
  case h_12 t x lo hi hop =>
    obtain ⟨v, h1, h2⟩ := vcSlice_sound h hp
    exact ⟨v, fun hg w' _ => by simp [execOp, hop, h1 hg w', Result.andThen], h2⟩
  case h_13 x i hop =>
    split at h
    · rename_i vs hx
      split at h
      · rename_i v hv
        cases h
        exact ⟨_, fun _ w' _ => by simp [execOp, hop, hx, Instr.extract, hv, Result.andThen], hp⟩
      · cases h
    · cases h
  case h_14 t x hop =>
    split at h
    · cases h
    · rename_i d hn ht
      cases h
      refine ⟨_, fun _ w' _ => ?_, hp⟩
      simp only [execOp, hop, Sem.run_bind, Instr.makeInterface, run_underlying ht, Result.andThen]
      cases d <;> first | rfl | exact absurd rfl (hn _)
    · cases h
  case h_15 fn a b hop => cases h; exact ⟨_, fun _ w' _ => by simp [execOp, hop, Instr.makeFunc, Result.andThen, ← mapA], hp⟩
  case h_16 t m k ok hop =>
    cases h
    obtain ⟨v, h1, h2⟩ := resK_some hp
    exact ⟨v, fun hg w' hw => by simp [execOp, hop, ob_out h1 hg w' (hw (by simp [heapOp, hop])), Result.andThen], h2⟩
  case h_17 c hop =>
    split at h
    · rename_i b hc
      rw [show c.args.toList.map ρ = (c.args.map ρ).toList by simp] at h
      have hmap : c.args.toList.map ρ = (c.args.map ρ).toList := by simp
      split at h
      · rename_i p' hp'
        cases h
        obtain ⟨v, h1, h2⟩ := vcBuiltin_sound (t := o.type) (cs := c.args.map fun | .const _ => true | _ => false) hp' hp
        refine ⟨v, fun _ w' _ => ?_, h2⟩
        simp only [execOp, hop, Sem.run_bind, resolve, hc, Sem.run_pure, Result.andThen, invoke]
        exact h1 w'
      · rename_i hnone
        split at h
        · cases h
          obtain ⟨n, h1, h2⟩ := hp
          refine ⟨_, fun hg w' hw => ?_, h2⟩
          have h3 := ob_out h1 hg w' (hw (by simp only [heapOp, hop, hc, hmap, hnone]))
          rw [Array.toArray_toList] at h3
          simp only [execOp, hop, Sem.run_bind, resolve, hc, Sem.run_pure, Result.andThen, invoke, builtin, h3]
        · cases h
    · cases h
  case h_18 t parts hop =>
    cases h
    rw [show (parts.toList.map fun p => (p.1, ρ p.2)) = (parts.map fun (i, x) => (i, ρ x)).toList by simp] at hp
    obtain ⟨v, h1, h2⟩ := vcBuild_all hp
    exact ⟨v, fun _ w' _ => by simp only [execOp, hop, Sem.run_bind, h1, Sem.run_pure, Result.andThen], h2⟩
  case h_19 => cases h

theorem quietK_sound {P : Program} {wr : Bool} {o : Oper} {ρ : Operand → Value} {w : World} {g : Option Bool} {K : Value → Prop} {p : Prop} (h : quietK P wr o ρ w g K = some p) (hp : p) :
    ∃ v, (gOn g → ∀ w', w'.heap = w.heap → (execOp ρ o).run P w' = .ok (.value v) w') ∧ K v :=
  let ⟨v, h1, h2⟩ := quietK_sound' h hp
  ⟨v, fun hg w' hw => h1 hg w' fun _ => hw, h2⟩

end Go.Vc
