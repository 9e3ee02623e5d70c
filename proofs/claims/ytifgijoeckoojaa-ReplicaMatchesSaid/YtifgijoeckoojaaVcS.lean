/-
  THE CONDITIONS OF A WALK OVER WHAT IT OWNS: blocks of local variables are known cell by cell ('Tr'), everything else is told by 'Ctx'; no world is named.
-/
import Derived.Test.YtifgijoeckoojaaVcG
import Derived.Test.YtifgijoeckoojaaVcM
import Derived.Test.YtifgijoeckoojaaVcN
set_option linter.unusedVariables false
set_option linter.unusedSimpArgs false
namespace Go.Vc
open Go.RowKit

abbrev PW := List Nat → World → Prop

/-- what a slot holds: a plain value, or a pointer into a block whose cells are known -/
inductive SV where
  | v (x : Value)
  | ptr (k o : Nat)

/-- a block whose cells are known; 'ver' counts the writes -/
structure Tr where
  id : Nat
  b : Nat
  ver : Nat
  cs : List Value
  t : TypeId

def Tr.own (T : Tr) : Own := .blk T.b T.cs T.t

def findT (k : Nat) : List Tr → Option Tr
  | [] => none
  | T :: r => match Nat.beq T.id k with | true => some T | false => findT k r

def setT (k : Nat) (cs : List Value) : List Tr → List Tr
  | [] => []
  | T :: r => match Nat.beq T.id k with | true => ⟨T.id, T.b, Nat.succ T.ver, cs, T.t⟩ :: r | false => T :: setT k cs r

def SV.val (L : List Tr) : SV → Value
  | .v x => x
  | .ptr k o => match findT k L with | some T => .pointer (some ⟨T.b, o, none⟩) | none => unk

/-- what is known of a frame -/
structure FrS where
  n : Nat
  l : List (Nat × SV)

def getS (i : Nat) : List (Nat × SV) → SV
  | [] => .v unk
  | (t, x) :: r => match Nat.beq t i with | true => x | false => getS i r

def valL (L : List Tr) : List (Nat × SV) → List (Nat × Value)
  | [] => []
  | (t, x) :: r => (t, x.val L) :: valL L r

def FrS.fr (L : List Tr) (s : FrS) : Fr := ⟨s.n, valL L s.l⟩

def FrS.ev (s : FrS) : Operand → SV
  | .tmp t => getS t s.l
  | .const v => .v v
  | .global g => .v (.pointer (some ⟨g, 0, none⟩))
  | .func f => .v (.func (.func f) #[] #[])

def FrS.val (s : FrS) (L : List Tr) (x : Operand) : Value := (s.ev x).val L

def FrS.put (s : FrS) (d : Option Tmp) (v : SV) : FrS :=
  match d with
  | some t => match Nat.blt t s.n with
    | true => ⟨s.n, (t, v) :: s.l⟩
    | false => s
  | none => s

theorem getL_val (L : List Tr) (i : Nat) : ∀ l : List (Nat × SV), getL i (valL L l) = (getS i l).val L
  | [] => rfl
  | (t, x) :: r => by
    simp only [valL, getL, getS]
    cases Nat.beq t i with
    | true => rfl
    | false => exact getL_val L i r

theorem fr_eval (s : FrS) (L : List Tr) (x : Operand) : (s.fr L).eval x = s.val L x := by
  cases x with
  | tmp t => exact getL_val L t s.l
  | const v => rfl
  | global g => rfl
  | func f => rfl

theorem fr_put (s : FrS) (L : List Tr) (d : Option Tmp) (v : SV) : (s.put d v).fr L = (s.fr L).put d (v.val L) := by
  cases d with
  | none => rfl
  | some t =>
    simp only [FrS.put, Fr.put, FrS.fr]
    cases Nat.blt t s.n <;> rfl

/-- the blocks that are known, later: those that there were lie where they lay; what was not written holds what it held -/
structure Ext (L L' : List Tr) : Prop where
  old : ∀ k T, findT k L = some T → ∃ T', findT k L' = some T' ∧ T'.b = T.b ∧ T'.t = T.t ∧ T.ver ≤ T'.ver ∧ (T'.ver = T.ver → T'.cs = T.cs)
  bs : (L.map Tr.b).Sublist (L'.map Tr.b)
  ids : (L.map Tr.id).Nodup → (L'.map Tr.id).Nodup

theorem Ext.refl (L : List Tr) : Ext L L := ⟨fun _ T h => ⟨T, h, rfl, rfl, Nat.le_refl _, fun _ => rfl⟩, List.Sublist.refl _, id⟩
theorem Ext.trans {A B C : List Tr} (h : Ext A B) (h' : Ext B C) : Ext A C := ⟨fun k T hk => by
  obtain ⟨T1, a1, a2, a3, a4, a5⟩ := h.old k T hk
  obtain ⟨T2, b1, b2, b3, b4, b5⟩ := h'.old k T1 a1
  exact ⟨T2, b1, b2.trans a2, b3.trans a3, Nat.le_trans a4 b4, fun e => by rw [b5 (by omega), a5 (by omega)]⟩, h.bs.trans h'.bs, fun hn => h'.ids (h.ids hn)⟩

theorem findT_id {k : Nat} {T : Tr} : ∀ {L : List Tr}, findT k L = some T → T.id = k ∧ T ∈ L
  | [], h => by cases h
  | U :: r, h => by
    unfold findT at h
    split at h
    · rename_i hb; cases h; exact ⟨Nat.eq_of_beq_eq_true hb, by simp⟩
    · obtain ⟨h1, h2⟩ := findT_id h; exact ⟨h1, List.mem_cons_of_mem _ h2⟩

theorem findT_setT {k : Nat} {cs : List Value} {T : Tr} (j : Nat) : ∀ {L : List Tr}, findT k L = some T → findT j (setT k cs L) = if j = k then some ⟨T.id, T.b, Nat.succ T.ver, cs, T.t⟩ else findT j L
  | [], h => by cases h
  | U :: r, h => by
    unfold findT at h
    unfold setT
    cases hb : Nat.beq U.id k with
    | true =>
      rw [hb] at h
      cases h
      have he := Nat.eq_of_beq_eq_true hb
      simp only [findT]
      by_cases hj : j = k
      · subst hj; rw [hb, if_pos rfl]
      · rw [if_neg hj, show Nat.beq T.id j = false by
          cases hx : Nat.beq T.id j with
          | false => rfl
          | true => exact absurd ((Nat.eq_of_beq_eq_true hx).symm.trans he) hj]
    | false =>
      rw [hb] at h
      have ih := findT_setT (cs := cs) j h
      simp only [findT]
      cases hx : Nat.beq U.id j with
      | true =>
        have := Nat.eq_of_beq_eq_true hx
        rw [if_neg (fun e => by rw [this, e] at hb; exact absurd hb (by simp))]
      | false => exact ih

theorem setT_keys (k : Nat) (cs : List Value) : ∀ L : List Tr, (setT k cs L).map Tr.b = L.map Tr.b ∧ (setT k cs L).map Tr.id = L.map Tr.id
  | [] => ⟨rfl, rfl⟩
  | T :: r => by
    unfold setT
    cases Nat.beq T.id k with
    | true => exact ⟨rfl, rfl⟩
    | false => have := setT_keys k cs r; simp [this]

theorem Ext.setT {k : Nat} {cs : List Value} {L : List Tr} {T : Tr} (h : findT k L = some T) : Ext L (setT k cs L) := by
  refine ⟨fun j U hj => ?_, by rw [(setT_keys k cs L).1]; exact List.Sublist.refl _, by rw [(setT_keys k cs L).2]; exact id⟩
  rw [findT_setT j h]
  by_cases e : j = k
  · subst e
    rw [h] at hj
    cases hj
    rw [if_pos rfl]
    exact ⟨_, rfl, rfl, rfl, Nat.le_succ _, fun hh => absurd hh (Nat.succ_ne_self _)⟩
  · rw [if_neg e]
    exact ⟨U, hj, rfl, rfl, Nat.le_refl _, fun _ => rfl⟩

theorem findT_none {k : Nat} : ∀ {L : List Tr}, findT k L = none → ∀ T ∈ L, T.id ≠ k
  | [], _, T, hT => by cases hT
  | U :: r, h, T, hT => by
    unfold findT at h
    split at h
    · cases h
    · rename_i hb
      rcases List.mem_cons.1 hT with rfl | hT
      · exact Nat.ne_of_beq_eq_false hb
      · exact findT_none h T hT

theorem Ext.new {L : List Tr} {T : Tr} (h : findT T.id L = none) : Ext L (T :: L) := by
  refine ⟨fun j U hj => ?_, List.sublist_cons_self _ _, fun hn => List.nodup_cons.2 ⟨fun hm => ?_, hn⟩⟩
  rotate_left
  · obtain ⟨U, hU, e⟩ := List.mem_map.1 hm
    exact findT_none h U hU e
  unfold findT
  cases hb : Nat.beq T.id j with
  | true => have := Nat.eq_of_beq_eq_true hb; rw [this, hj] at h; cases h
  | false => exact ⟨U, hj, rfl, rfl, Nat.le_refl _, fun _ => rfl⟩

theorem Ext.val {L L' : List Tr} (h : Ext L L') {x : SV} (hu : isU (x.val L) = false) : x.val L' = x.val L := by
  cases x with
  | v x => rfl
  | ptr k o =>
    simp only [SV.val] at hu ⊢
    cases hk : findT k L with
    | none => rw [hk] at hu; cases hu
    | some T =>
      obtain ⟨T', h1, h2, _⟩ := h.old k T hk
      simp only [h1, h2]

theorem Ext.valL {L L' : List Tr} (h : Ext L L') : ∀ {l : List (Nat × SV)}, (∀ p ∈ l, ∀ k o, p.2 = SV.ptr k o → (findT k L).isSome = true) → valL L' l = valL L l
  | [], _ => rfl
  | (t, x) :: r, hl => by
    have ih := Ext.valL h (l := r) fun p hp => hl p (List.mem_cons_of_mem _ hp)
    simp only [Go.Vc.valL, ih]
    cases x with
    | v x => rfl
    | ptr k o =>
      have := hl (t, .ptr k o) (by simp) k o rfl
      obtain ⟨T, hT⟩ := Option.isSome_iff_exists.1 this
      obtain ⟨T', h1, h2, _⟩ := h.old k T hT
      simp only [SV.val, hT, h1, h2]

/-- all pointers of the frame are ones into L -/
def WfS (L : List Tr) (s : FrS) : Prop := ∀ p ∈ s.l, ∀ k o, p.2 = SV.ptr k o → (findT k L).isSome = true

theorem WfS.ext {L L' : List Tr} {s : FrS} (h : WfS L s) (he : Ext L L') : WfS L' s := fun p hp k o e => by
  obtain ⟨T, hT⟩ := Option.isSome_iff_exists.1 (h p hp k o e)
  obtain ⟨T', h1, _⟩ := he.old k T hT
  rw [h1]; rfl

theorem WfS.fr {L L' : List Tr} {s : FrS} (h : WfS L s) (he : Ext L L') : s.fr L' = s.fr L := by
  simp only [FrS.fr, he.valL h]

theorem WfS.put {L : List Tr} {s : FrS} (h : WfS L s) {d : Option Tmp} {v : SV} (hv : ∀ k o, v = SV.ptr k o → (findT k L).isSome = true) : WfS L (s.put d v) := by
  cases d with
  | none => exact h
  | some t =>
    unfold FrS.put
    simp only
    cases Nat.blt t s.n with
    | false => exact h
    | true =>
      intro p hp k o e
      rcases List.mem_cons.1 hp with rfl | hp
      · exact hv k o e
      · exact h p hp k o e

theorem WfS.ev {L : List Tr} {s : FrS} (h : WfS L s) {x : Operand} {k o : Nat} (e : s.ev x = .ptr k o) : (findT k L).isSome = true := by
  cases x with
  | tmp t =>
    unfold FrS.ev at e
    have key : ∀ l : List (Nat × SV), getS t l = .ptr k o → ∃ p ∈ l, p.2 = .ptr k o := by
      intro l
      induction l with
      | nil => intro h; cases h
      | cons p r ih =>
        intro h
        unfold getS at h
        split at h
        · exact ⟨p, by simp, h⟩
        · obtain ⟨q, hq, hq'⟩ := ih h; exact ⟨q, List.mem_cons_of_mem _ hq, hq'⟩
    obtain ⟨p, hp, hp'⟩ := key _ e
    exact h p hp k o hp'
  | const v => cases e
  | global g => cases e
  | func f => cases e

/-- WHAT IS KNOWN AT A POINT OF THE WALK -/
def CtxS (W w : World) (L : List Tr) (R : List Own) (Φ : PW) : Prop := Ctx W w (R ++ L.map Tr.own) Φ

/-! ### one operation -/
def optP : Option Prop → Prop
  | some p => p
  | none => False

def Sc.fit : Sc → Value → Bool
  | .int k, .int k' _ => decide (k' = k)
  | .bool, .bool _ => true
  | .str, .string _ => true
  | .ptr, .pointer _ => true
  | .slice, .slice _ _ _ => true
  | .map, .map _ => true
  | .fn, .func (.func _) _ _ => true
  | .any, _ => true
  | .adr, .pointer (some ⟨_, _, none⟩) => true
  | _, _ => false

def fitL : List Sc → List Value → Bool
  | [], [] => true
  | s :: r, v :: vs => match s.fit v with | true => fitL r vs | false => false
  | _, _ => false

theorem Sc.fit_ex {s : Sc} {v : Value} {K : Value → Prop} (h : s.fit v = true) (hk : K v) : s.ex K := by
  cases s
  case adr =>
    cases v
    case pointer p =>
      rcases p with _ | ⟨b, o, s⟩
      · simp only [Sc.fit] at h; cases h
      · cases s with
        | none => exact ⟨_, _, hk⟩
        | some s => simp only [Sc.fit] at h; cases h
    all_goals simp only [Sc.fit] at h; cases h
  all_goals cases v <;> simp only [Sc.fit] at h <;> first
    | (cases h; done)
    | exact ⟨_, hk⟩
    | exact ⟨_, _, _, hk⟩
    | (have := of_decide_eq_true h; subst this; exact ⟨_, hk⟩)
    | (rename_i f _ _; cases f <;> simp only [Sc.fit] at h <;> first | (cases h; done) | exact ⟨_, _, _, hk⟩)

theorem fitL_ex : ∀ {l : List Sc} {vs : List Value} {K : List Value → Prop}, fitL l vs = true → K vs → exL l K
  | [], [], _, _, hk => hk
  | s :: r, v :: vs, _, h, hk => by
    unfold fitL at h
    split at h
    · rename_i hs; exact Sc.fit_ex hs (fitL_ex h hk)
    · cases h
  | [], _ :: _, _, h, _ => by cases h
  | _ :: _, [], _, h, _ => by cases h

/-- a load from a block that is known -/
def loadT (P : Program) (t : TypeId) (L : List Tr) (k off : Nat) (K : Value → Prop) : Prop :=
  match findT k L, P.underlying t, P.info? t with
  | some T, some d, some i =>
    match aggD d, i.zero.map Sh.of with
    | true, some (.agg l) => match Nat.beq l.length i.size && fitL l ((T.cs.drop off).take i.size) with
      | true => K (.agg ((T.cs.drop off).take i.size).toArray)
      | false => False
    | false, some (.one s) => match T.cs[off]? with
      | some v => match s with
        | .fn => ∃ (f : FuncId) (a c : Array Value), v = .func (.func f) a c ∧ K (.func (.func f) a c)
        | s => match s.fit v with
          | true => K v
          | false => False
      | none => False
    | _, _ => False
  | _, _, _ => False

def fieldT (P : Program) (t : TypeId) (k off f : Nat) (K : SV → Prop) : Prop :=
  match P.underlying t with
  | some (.struct fs) =>
    match fs[f]? with
    | some fd =>
      match P.info? fd.type with
      | some i => match Nat.beq i.size 0 with
        | false => K (.ptr k (off + fd.offset))
        | true => False
      | none => False
    | none => False
  | _ => False

def indexT (P : Program) (t : TypeId) (k off : Nat) (i : Value) (K : SV → Prop) : Prop :=
  match i, P.underlying t with
  | .int _ n, some (.array len e) => match P.info? e with
    | some ie => (0 ≤ n ∧ n < len) ∧ K (.ptr k (idx off n.toNat ie.size))
    | none => False
  | _, _ => False

def isLen (o : Oper) : Bool := match o.op with | .call c => (match c.callee with | .builtin .len => true | _ => false) | _ => false

/-- an operation that writes, makes memory or calls, in a world -/
def effA (P : Program) (wr : Bool) (ex : Nat → Option TypeId) (o : Oper) (ρ : Operand → Value) (w : World) (K : Value → World → Prop) : Prop :=
  match wr with
  | true => dynK P ex o ρ w K
  | false => effK P ex o ρ w K

section
variable (P : Program) (W : World)

/-- AN OPERATION THAT READS -/
def readS (wr : Bool) (o : Oper) (s : FrS) (L : List Tr) (R : List Own) (Φ : PW) (K : SV → Prop) : Option Prop :=
  match o.op with
  | .move x => some (K (s.ev x))
  | .assign x => some (K (s.ev x))
  | .nilCheck x => match s.ev x with
    | .ptr k off => some (K (.ptr k off))
    | .v _ => quietK P wr o (s.val L) W none fun v => K (.v v)
  | .fieldAddr t x f => match s.ev x with
    | .ptr k off => some (fieldT P t k off f K)
    | .v _ => quietK P wr o (s.val L) W none fun v => K (.v v)
  | .indexAddr t x i => match s.ev x with
    | .ptr k off => some (indexT P t k off (s.val L i) K)
    | .v _ => quietK P wr o (s.val L) W none fun v => K (.v v)
  | .load t x => match s.ev x with
    | .ptr k off => some (loadT P t L k off fun v => K (.v v))
    | .v _ => some (∀ w F, Ctx W w (R ++ F) Φ → optP (quietK P wr o (s.val L) w none fun v => K (.v v)))
  | .lookup .. => some (∀ w F, Ctx W w (R ++ F) Φ → optP (quietK P wr o (s.val L) w none fun v => K (.v v)))
  | _ => match heapOp P o (s.val L) fun v => K (.v v) with
    | false => quietK P wr o (s.val L) W none fun v => K (.v v)
    | true => match isLen o with
      | true => some (∀ w F, Ctx W w (R ++ F) Φ → optP (quietK P wr o (s.val L) w none fun v => K (.v v)))
      | false => none

/-- a store into a block that is known -/
def storeT (wr : Bool) (t : TypeId) (L : List Tr) (k off : Nat) (v : Value) (K : List Tr → Prop) : Prop :=
  match findT k L, P.info? t with
  | some T, some i =>
    match wr with
    | true => match P.underlying t with
      | some d => match aggD d with
        | true => match v with
          | .agg cs => match Nat.beq cs.toList.length i.size && Nat.ble (off + i.size) T.cs.length with
            | true => OneAll cs.toList ∧ K (setT k (setL T.cs off cs.toList) L)
            | false => False
          | _ => False
        | false => match Nat.beq i.size 1 && Nat.blt off T.cs.length with
          | true => OneAll [v] ∧ K (setT k (T.cs.set off v) L)
          | false => False
      | none => False
    | false => match v with
      | .agg cs => match Nat.beq cs.toList.length i.size && cs.toList.all oneC && Nat.ble (off + i.size) T.cs.length with
        | true => K (setT k (setL T.cs off cs.toList) L)
        | false => False
      | v => match Nat.beq i.size 1 && oneC v && Nat.blt off T.cs.length with
        | true => K (setT k (T.cs.set off v) L)
        | false => False
  | _, _ => False

/-- new memory -/
def newS (trk : Bool) (d : Option Tmp) (cs : List Value) (t : TypeId) (L : List Tr) (R : List Own) (Φ : PW) (K : SV → List Tr → List Own → PW → Prop) : Prop :=
  match trk, d with
  | true, some d => match findT d L with
    | none => ∀ b : Nat, K (.ptr d 0) (⟨d, b, 0, cs, t⟩ :: L) R Φ
    | some _ => False
  | _, _ => ∀ b : Nat, K (.v (.pointer (some ⟨b, 0, none⟩))) L (.blk b cs t :: R) Φ

/-- the cells of a slice's literal -/
def sliceCells (t : TypeId) (n : Nat) (parts : List (Nat × Value)) : Option (List Value × TypeId) :=
  match P.underlying t with
  | some (.slice e) =>
    match P.info? e, zeroOf P e with
    | some i, some z =>
      match Nat.ble (n * i.size) 16777216 && Nat.beq i.size z.cells.toList.length with
      | true =>
        match fillL (fun j => some (j * i.size, i.size)) (zeros n z.cells.toList) parts with
        | some cells => some (cells, e)
        | none => none
      | false => none
    | _, _ => none
  | _ => none

def makeS (t : TypeId) (l c : Value) (K : Nat → Nat → List Value → TypeId → Prop) : Prop :=
  match P.underlying t, l, c with
  | some (.slice e), .int .i64 l, .int .i64 c =>
    match P.info? e, zeroOf P e with
    | some i, some z =>
      (0 ≤ l ∧ l ≤ c ∧ i.bytes * c ≤ 281474976710656 ∧ c ≤ 9223372036854775807) ∧
        (match Nat.beq i.size 1 && oneC z with
          | true => K l.toNat c.toNat (List.replicate c.toNat z) e
          | false => match Nat.beq i.size z.cells.toList.length && !(Nat.beq i.size 0) with
            | true => K l.toNat c.toNat (zeros c.toNat z.cells.toList) e
            | false => False)
    | _, _ => False
  | _, _, _ => False

/-- ANY OPERATION -/
def opS (wr trk : Bool) (ex : Nat → Option TypeId) (o : Oper) (s : FrS) (L : List Tr) (R : List Own) (Φ : PW) (K : SV → List Tr → List Own → PW → Prop) : Prop :=
  match o.op with
  | .pick c x y => match s.val L c with
    | .bool b => Br b (K (s.ev x) L R Φ) (K (s.ev y) L R Φ)
    | _ => False
  | _ => match okOps (s.fr L) o && notSel o with
    | true => match readS P W wr o s L R Φ fun v => K v L R Φ with
      | some p => p
      | none => match o.op with
        | .store t x y => match s.ev x with
          | .ptr k off => storeT P wr t L k off (s.val L y) fun L => K (.v undef) L R Φ
          | .v _ => ∀ w F, Ctx W w (R ++ F) Φ → effA P wr ex o (s.val L) w fun v w' => ∃ R' Φ', Stable Φ' ∧ Ctx W w' (R' ++ F) Φ' ∧ K (.v v) L R' Φ'
        | .box t x => newS trk o.dst (s.val L x).cells.toList t L R Φ K
        | .alloc t => match zeroOf P t with
          | some z => newS trk o.dst z.cells.toList t L R Φ K
          | none => False
        | .buildSlice t n parts => match sliceCells P t n (parts.toList.map fun p => (p.1, s.val L p.2)) with
          | some (cells, e) => ∀ b : Nat, K (.v (.slice (some ⟨b, 0, none⟩) n n)) L (.blk b cells e :: R) Φ
          | none => False
        | .makeSlice t l c => makeS P t (s.val L l) (s.val L c) fun l c cells e => ∀ b : Nat, K (.v (.slice (some ⟨b, 0, none⟩) l c)) L (.blk b cells e :: R) Φ
        | .makeMap _ none => ∀ b : Nat, K (.v (.map (some b))) L (.obj b (.map #[] 0) :: R) Φ
        | .build t parts => vcBuild P t (parts.toList.map fun p => (p.1, s.val L p.2)) fun v => K (.v v) L R Φ
        | _ => ∀ w F, Ctx W w (R ++ F) Φ → effA P wr ex o (s.val L) w fun v w' => ∃ R' Φ', Stable Φ' ∧ Ctx W w' (R' ++ F) Φ' ∧ K (.v v) L R' Φ'
    | false => False

end

end Go.Vc
