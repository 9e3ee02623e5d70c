/-
  THE CONDITIONS OF A WALK AS ONE FORMULA: a function's body.
-/
import Derived.Test.YtifgijoeckoojaaVcN
set_option linter.unusedVariables false
set_option linter.unusedSimpArgs false
namespace Go.Vc
open Go.RowKit

/-! ### what holds of slots, as a statement over their contents -/
abbrev Vars := List (Nat × Sh)

def Sc.Arg (α : Type) : Sc → Type
  | .int _ => Int → α
  | .bool => Bool → α
  | .str => ByteArray → α
  | .ptr => Option Addr → α
  | .slice => Option Addr → Nat → Nat → α
  | .map => Option Nat → α
  | .fn => FuncId → Array Value → Array Value → α
  | .any => Value → α
  | .adr => Nat → Nat → α

def argL (α : Type) : List Sc → Type
  | [] => α
  | s :: r => Sc.Arg (argL α r) s

def Sh.Arg (α : Type) : Sh → Type
  | .one s => s.Arg α
  | .agg l => argL α l

def Cur (ρ : Type) : Vars → Type
  | [] => ρ
  | (_, s) :: r => s.Arg (Cur ρ r)

/-- the content of a cell handed to a function; none: it has another form -/
def Sc.app {α : Type} : (s : Sc) → s.Arg α → Value → Option α
  | .int k, f, .int k' n => if k = k' then some (f n) else none
  | .bool, f, .bool b => some (f b)
  | .str, f, .string s => some (f s)
  | .ptr, f, .pointer p => some (f p)
  | .slice, f, .slice p n c => some (f p n c)
  | .map, f, .map r => some (f r)
  | .fn, f, .func (.func g) a c => some (f g a c)
  | .any, f, v => match isU v with | true => none | false => some (f v)
  | .adr, f, .pointer (some ⟨b, o, none⟩) => some (f b o)
  | _, _, _ => none

def appL {α : Type} : (l : List Sc) → argL α l → List Value → Option α
  | [], x, [] => some x
  | s :: r, f, v :: vs => match s.app f v with
    | some g => appL r g vs
    | none => none
  | _, _, _ => none

def Sh.app {α : Type} : (s : Sh) → s.Arg α → Value → Option α
  | .one s, f, v => s.app f v
  | .agg l, f, .agg cs => appL l f cs.toList
  | _, _, _ => none

def Cur.app {ρ : Type} : (l : Vars) → Cur ρ l → List Value → Option ρ
  | [], x, [] => some x
  | (_, s) :: r, f, v :: vs => match s.app f v with
    | some g => Cur.app r g vs
    | none => none
  | _, _, _ => none

def holdsAt (x : Option (World → Prop)) (w : World) : Prop := match x with | some I => I w | none => False
def sizeAt (x : Option (World → Nat)) (w : World) : Nat := match x with | some I => I w | none => 0

def Sc.all : Sc → (Value → Prop) → Prop
  | .int k, K => ∀ n : Int, K (.int k n)
  | .bool, K => ∀ b : Bool, K (.bool b)
  | .str, K => ∀ s : ByteArray, K (.string s)
  | .ptr, K => ∀ p : Option Addr, K (.pointer p)
  | .slice, K => ∀ p : Option Addr, ∀ n c : Nat, K (.slice p n c)
  | .map, K => ∀ r : Option Nat, K (.map r)
  | .fn, K => ∀ (f : FuncId) (a c : Array Value), K (.func (.func f) a c)
  | .any, K => ∀ v : Value, K v
  | .adr, K => ∀ b o : Nat, K (.pointer (some ⟨b, o, none⟩))

def allL : List Sc → (List Value → Prop) → Prop
  | [], K => K []
  | s :: r, K => s.all fun v => allL r fun vs => K (v :: vs)

def Sh.all : Sh → (Value → Prop) → Prop
  | .one s, K => s.all K
  | .agg l, K => allL l fun vs => K (.agg vs.toArray)

def Vars.all : Vars → (List Value → Prop) → Prop
  | [], K => K []
  | (_, s) :: r, K => s.all fun v => Vars.all r fun vs => K (v :: vs)

theorem Sc.app_all {α : Type} {s : Sc} {f : s.Arg α} {v : Value} {x : α} (h : s.app f v = some x) {K : Value → Prop} (hK : s.all K) : K v ∧ isU v = false := by
  cases s
  case fn =>
    cases v
    case func g a c => cases g <;> simp only [Sc.app] at h <;> first | (cases h; done) | exact ⟨hK _ _ _, rfl⟩
    all_goals simp only [Sc.app] at h; cases h
  case adr =>
    cases v
    case pointer p =>
      rcases p with _ | ⟨b, o, s⟩
      · simp only [Sc.app] at h; cases h
      · cases s with
        | none => exact ⟨hK _ _, rfl⟩
        | some s => simp only [Sc.app] at h; cases h
    all_goals simp only [Sc.app] at h; cases h
  all_goals
   cases v <;> simp only [Sc.app, isU] at h <;> first
    | (cases h; done)
    | exact ⟨hK _, rfl⟩
    | exact ⟨hK _ _ _, rfl⟩
    | (split at h
       · rename_i e; subst e; exact ⟨hK _, rfl⟩
       · cases h)
    | (split at h
       · cases h
       · rename_i hu; exact ⟨hK _, hu⟩)

theorem appL_all {α : Type} : ∀ {l : List Sc} {f : argL α l} {vs : List Value} {x : α}, appL l f vs = some x → ∀ {K : List Value → Prop}, allL l K → K vs
  | [], _, [], _, _, _, hK => hK
  | s :: r, f, v :: vs, x, h, K, hK => by
    unfold appL at h
    split at h
    · rename_i g hg
      exact appL_all h (Sc.app_all hg hK).1
    · cases h
  | [], _, _ :: _, _, h, _, _ => by simp [appL] at h
  | _ :: _, _, [], _, h, _, _ => by simp [appL] at h

theorem Sh.app_all {α : Type} {s : Sh} {f : s.Arg α} {v : Value} {x : α} (h : s.app f v = some x) {K : Value → Prop} (hK : s.all K) : K v ∧ isU v = false := by
  unfold Sh.app at h
  split at h
  · exact Sc.app_all h hK
  · rename_i cs
    have := appL_all h hK
    exact ⟨by simpa using this, rfl⟩
  · cases h

theorem Cur.app_all {ρ : Type} : ∀ {l : Vars} {f : Cur ρ l} {vs : List Value} {x : ρ}, Cur.app l f vs = some x → ∀ {K : List Value → Prop}, Vars.all l K → K vs ∧ vs.length = l.length ∧ ∀ v ∈ vs, isU v = false
  | [], _, [], _, _, _, hK => ⟨hK, rfl, fun v hv => (by cases hv)⟩
  | (t, s) :: r, f, v :: vs, x, h, K, hK => by
    unfold Cur.app at h
    split at h
    · rename_i g hg
      obtain ⟨h1, h2⟩ := Sh.app_all hg hK
      obtain ⟨h3, h4, h5⟩ := Cur.app_all h h1
      refine ⟨h3, by simp [h4], fun u hu => ?_⟩
      rcases List.mem_cons.1 hu with rfl | hu
      · exact h2
      · exact h5 u hu
    · cases h
  | [], _, _ :: _, _, h, _, _ => by simp [Cur.app] at h
  | _ :: _, _, [], _, h, _, _ => by simp [Cur.app] at h

theorem Sc.all_true : ∀ {s : Sc} {K : Value → Prop}, (∀ v, K v) → s.all K := by
  intro s K h
  cases s <;> simp only [Sc.all] <;> intros <;> exact h _
theorem allL_true : ∀ {l : List Sc} {K : List Value → Prop}, (∀ v, K v) → allL l K
  | [], _, h => h _
  | _ :: _, _, h => Sc.all_true fun _ => allL_true fun _ => h _
theorem Sh.all_true {s : Sh} {K : Value → Prop} (h : ∀ v, K v) : s.all K := by
  cases s
  · exact Sc.all_true h
  · exact allL_true fun _ => h _
theorem Vars.all_true : ∀ {l : Vars} {K : List Value → Prop}, (∀ v, K v) → l.all K
  | [], _, h => h _
  | _ :: _, _, h => Sh.all_true fun _ => Vars.all_true fun _ => h _

theorem Cur.app_known {ρ : Type} {l : Vars} {f : Cur ρ l} {vs : List Value} {x : ρ} (h : Cur.app l f vs = some x) : vs.length = l.length ∧ ∀ v ∈ vs, isU v = false :=
  (Cur.app_all h (K := fun _ => True) (Vars.all_true fun _ => trivial)).2

/-- 'there is', of what holds of slots -/
def exI {α : Type} (p : α → Prop) : Prop := ∃ x, p x
theorem exI_mk {α : Type} {p : α → Prop} (x : α) (h : p x) : exI p := ⟨x, h⟩

/-! ### frames at a meeting of ways -/
def slotsOf (l : Vars) (s : Fr) : List Value := l.map fun v => getL v.1 s.l
def slotsA (l : Vars) (a : Act) : List Value := l.map fun v => a.tmps.getD v.1 undef

def memB (t : Nat) : List Nat → Bool
  | [] => false
  | x :: r => match Nat.beq t x with | true => true | false => memB t r

theorem memB_iff {t : Nat} : ∀ {l : List Nat}, memB t l = true ↔ t ∈ l
  | [] => by simp [memB]
  | x :: r => by
    unfold memB
    cases h : Nat.beq t x with
    | true => have := Nat.eq_of_beq_eq_true h; simp [this]
    | false => have := Nat.ne_of_beq_eq_false h; simp [this, memB_iff]

def Fr.drop (s : Fr) (asg : List Nat) : Fr := ⟨s.n, filterL (fun t => !memB t asg) s.l⟩
def Fr.keep (s : Fr) (k : Option (List Nat)) : Fr := match k with | none => s | some k => ⟨s.n, filterL (fun t => memB t k) s.l⟩

theorem drop_get (s : Fr) (asg : List Nat) (i : Nat) : (s.drop asg).get i = if i ∈ asg then unk else s.get i := by
  simp only [Fr.drop, Fr.get, filterL_get]
  by_cases h : i ∈ asg
  · have : memB i asg = true := memB_iff.2 h; simp [h, this]
  · have : memB i asg = false := by cases hm : memB i asg; rfl; exact absurd (memB_iff.1 hm) h
    simp [h, this]

theorem keep_sim {s : Fr} {a : Act} (h : Sim s a) (k : Option (List Nat)) : Sim (s.keep k) a := by
  cases k with
  | none => exact h
  | some k =>
    refine ⟨h.defers, h.size, fun i hi => ?_⟩
    simp only [Fr.keep, Fr.get, filterL_get] at hi ⊢
    split at hi
    · rename_i hc; rw [if_pos hc]; exact h.slot i hi
    · cases hi

theorem keep_unch {D : Nat → Prop} {s0 s : Fr} (h : Unch D s0 s) (k : Option (List Nat)) : Unch D s0 (s.keep k) := by
  cases k with
  | none => exact h
  | some k =>
    refine ⟨h.1, fun i hi hu => ?_⟩
    simp only [Fr.keep, Fr.get, filterL_get] at hu ⊢
    split at hu
    · rename_i hc; rw [if_pos hc]; exact h.2 i hi hu
    · cases hu

def consAll : Vars → List Value → List (Nat × Value) → List (Nat × Value)
  | (t, _) :: r, v :: vs, s => (t, v) :: consAll r vs s
  | _, _, s => s

def putAll (l : Vars) (vs : List Value) (s : Fr) : Fr := ⟨s.n, consAll l vs s.l⟩

theorem putAll_cons (t : Nat) (sh : Sh) (r : Vars) (v : Value) (vs : List Value) (s : Fr) (i : Nat) :
    (putAll ((t, sh) :: r) (v :: vs) s).get i = if t = i then v else (putAll r vs s).get i := by
  simp only [putAll, Fr.get, consAll, getL]
  cases hb : Nat.beq t i with
  | true => simp [Nat.eq_of_beq_eq_true hb]
  | false => simp [Nat.ne_of_beq_eq_false hb]

theorem drop_unch {D : Nat → Prop} {l : List Nat} {s : Fr} : Unch D s (s.drop l) :=
  ⟨rfl, fun i _ hu => by
    rw [drop_get] at hu ⊢
    split at hu
    · cases hu
    · rename_i hc; rw [if_neg hc]⟩
theorem putAll_unch {D : Nat → Prop} {s0 : Fr} : ∀ {l : Vars} {vs : List Value} {s : Fr}, (∀ v ∈ l, D v.1) → Unch D s0 s → Unch D s0 (putAll l vs s)
  | [], _, _, _, h => h
  | _ :: _, [], _, _, h => h
  | (t, sh) :: r, v :: vs, s, hl, h => by
    have ih := putAll_unch (l := r) (vs := vs) (fun x hx => hl x (List.mem_cons_of_mem _ hx)) h
    refine ⟨ih.1, fun i hi => ?_⟩
    rw [putAll_cons, if_neg (by rintro rfl; exact hi (hl (t, sh) (by simp)))]
    exact ih.2 i hi

/-- the frame at a meeting of ways: of what is assigned ahead of it only 'vars' are known -/
def meet (asg : List Nat) (l : Vars) (vs : List Value) (s : Fr) : Fr := putAll l vs (s.drop asg)

theorem meet_unch {D : Nat → Prop} {asg : List Nat} {l : Vars} {vs : List Value} {s : Fr} (h2 : ∀ v ∈ l, D v.1) : Unch D s (meet asg l vs s) :=
  putAll_unch h2 drop_unch

theorem putAll_sim {s : Fr} {a : Act} : ∀ {l : Vars} {vs : List Value}, Sim s a → (∀ (j : Nat) t sh v, l[j]? = some (t, sh) → vs[j]? = some v → a.tmps.getD t undef = v) → Sim (putAll l vs s) a
  | [], _, h, _ => h
  | _ :: _, [], h, _ => h
  | (t, sh) :: r, v :: vs, h, hv => by
    have ih := putAll_sim (l := r) (vs := vs) h (fun j t' sh' v' h1 h2 => hv (j + 1) t' sh' v' (by simpa using h1) (by simpa using h2))
    have h0 := hv 0 t sh v (by simp) (by simp)
    refine ⟨ih.defers, ih.size, fun i hi => ?_⟩
    rw [putAll_cons] at hi ⊢
    split at hi
    · rename_i e; subst e; rw [if_pos rfl]; exact h0
    · rename_i e; rw [if_neg e]; exact ih.slot i hi

def knownAll (s' : Fr) : List (Nat × Value) → Bool
  | [] => true
  | (t, _) :: r => match isU (getL t s'.l) with | true => false | false => knownAll s' r

/-- what the frame at the meeting knows besides 'vars' is known -/
def knownSub (asg : List Nat) (s s' : Fr) : Bool := knownAll s' (s.drop asg).l

theorem knownAll_spec {s' : Fr} {i : Nat} : ∀ {l : List (Nat × Value)}, knownAll s' l = true → isU (getL i l) = false → isU (s'.get i) = false
  | [], _, h => by cases h
  | (t, v) :: r, hk, h => by
    unfold knownAll at hk
    split at hk
    · cases hk
    · rename_i hu
      unfold getL at h
      split at h
      · rename_i hb; have := Nat.eq_of_beq_eq_true hb; subst this; exact hu
      · exact knownAll_spec hk h

theorem knownSub_refl {asg : List Nat} {s : Fr} {i : Nat} (h : isU ((s.drop asg).get i) = false) : isU (s.get i) = false := by
  rw [drop_get] at h
  split at h
  · cases h
  · exact h

/-- what the frame 's'' knows, the frame at the meeting knows -/
theorem meet_sim {s s' : Fr} {a : Act} {asg : List Nat} {l : Vars} {vs : List Value} (hs : Sim s' a) (hu : Unch (fun t => t ∈ asg) s s') (hsub : ∀ i, isU ((s.drop asg).get i) = false → isU (s'.get i) = false) (hvs : vs = slotsOf l s') (hk : ∀ v ∈ vs, isU v = false) : Sim (meet asg l vs s) a := by
  have h1 : Sim (s.drop asg) a := by
    refine ⟨hs.defers, by rw [hs.size, hu.1]; rfl, fun i hi => ?_⟩
    have hk' := hsub i hi
    rw [drop_get] at hi ⊢
    split at hi
    · cases hi
    · rename_i hm
      rw [if_neg hm, hs.slot i hk']
      exact hu.2 i hm hk'
  refine putAll_sim h1 fun j t sh v h2 h3 => ?_
  subst hvs
  simp only [slotsOf, List.getElem?_map, h2, Option.map_some, Option.some.injEq] at h3
  rw [← h3]
  have : isU (s'.get t) = false := by
    show isU (getL t s'.l) = false
    rw [h3]
    exact hk v (by rw [← h3]; exact List.mem_map.2 ⟨(t, sh), List.mem_of_getElem? h2, rfl⟩)
  exact hs.slot t this

theorem meet_slots {asg : List Nat} {l : Vars} {vs : List Value} {s : Fr} {a : Act} (hs : Sim (meet asg l vs s) a) (hn : (l.map (·.1)).Nodup) (hlen : vs.length = l.length) (hk : ∀ v ∈ vs, isU v = false) (hb : ∀ v ∈ l, v.1 < s.n) :
    slotsA l a = vs := by
  have key : ∀ (l : Vars) (vs : List Value) (s : Fr), (l.map (·.1)).Nodup → vs.length = l.length → (∀ v ∈ l, v.1 < s.n) → slotsOf l (putAll l vs s) = vs := by
    intro l
    induction l with
    | nil => intro vs s _ h _; cases vs <;> simp_all [slotsOf]
    | cons x r ih =>
      obtain ⟨t, sh⟩ := x
      intro vs s hn hl hb
      cases vs with
      | nil => simp at hl
      | cons v vs =>
        have ih' := ih vs s (by simp at hn; exact hn.2) (by simpa using hl) (fun v hv => hb v (List.mem_cons_of_mem _ hv))
        simp only [slotsOf, List.map_cons]
        congr 1
        · show Fr.get _ t = v
          rw [putAll_cons, if_pos rfl]
        · simp only [slotsOf] at ih'
          conv => rhs; rw [← ih']
          apply List.map_congr_left
          rintro ⟨y1, y2⟩ hy
          show Fr.get _ y1 = Fr.get _ y1
          rw [putAll_cons, if_neg]
          rintro e
          cases e
          simp at hn
          exact hn.1 _ hy
  have h1 := key l vs (s.drop asg) hn hlen (fun v hv => hb v hv)
  have : slotsA l a = slotsOf l (meet asg l vs s) := by
    unfold slotsOf slotsA
    apply List.map_congr_left
    intro y hy
    refine hs.slot _ (hk _ ?_)
    have hm : getL y.1 (meet asg l vs s).l ∈ slotsOf l (meet asg l vs s) := List.mem_map.2 ⟨y, hy, rfl⟩
    rwa [show slotsOf l (meet asg l vs s) = vs from h1] at hm
  rw [this]
  exact h1

/-! ### a body -/
structure Hints where
  /-- slots whose sums may wrap -/
  wrap : List Nat := []
  /-- regions with guards that are walked in the text's order -/
  split : List Nat := []
  /-- regions that are walked in the text's order, every guard said to hold -/
  sure : List Nat := []
  /-- regions whose calls may draw -/
  draws : List Nat := []
  /-- slots that are read outside the region that writes them -/
  keep : Option (List Nat) := none
  /-- regions whose order is drawn, and that write or call: the order in which they are walked; 'true': a read -/
  held : List (Nat × List (Nat × Bool)) := []
  loops : List (Nat × Vars) := []
  cuts : List (Nat × Vars) := []

def firstReg : Code → Nat
  | .region id _ _ => id
  | .seq a b => firstReg a
  | .block _ b => firstReg b
  | .loop b => firstReg b
  | _ => 100000

def dsts (l : List Oper) : List Nat := l.filterMap (·.dst)

def asg : Code → List Nat
  | .region _ ops _ => dsts ops.toList
  | .seq a b => asg a ++ asg b
  | .cond _ a b => asg a ++ asg b
  | .block _ b => asg b
  | .loop b => asg b
  | _ => []

def guarded (l : List Oper) : Bool := l.any fun o => o.guard.isSome
def onlyReads (o : Oper) : Bool := match o.op with
  | .store .. | .box .. | .alloc .. | .buildSlice .. | .makeSlice .. | .makeMap .. | .mapUpdate .. | .mapEntry .. | .entryStore .. | .range .. | .next .. | .entry .. => false
  | _ => true

def nodupB : List Nat → Bool
  | [] => true
  | x :: r => !memB x r && nodupB r

theorem nodupB_spec : ∀ {l : List Nat}, nodupB l = true → l.Nodup
  | [], _ => List.nodup_nil
  | x :: r, h => by
    simp only [nodupB, Bool.and_eq_true, Bool.not_eq_true'] at h
    refine List.nodup_cons.2 ⟨fun hm => ?_, nodupB_spec h.2⟩
    rw [memB_iff.2 hm] at h
    cases h.1

def varsOk (asg : List Nat) (l : Vars) (s : Fr) : Bool := List.all l (fun v => memB v.1 asg && Nat.blt v.1 s.n) && nodupB (l.map (·.1))

def okDraw (P : Program) (ops : Array Oper) : Bool := P.follows .mixedOrders && Region.lexB .any ops

def drawBody (P : Program) (H : Hints) (ops : Array Oper) (s : Fr) (w : World) (K : Fr → World → Prop) : Prop :=
  specK P (fun t => memB t H.wrap) true ops s w fun s' w' => K (s'.keep H.keep) w'

def textBody (P : Program) (H : Hints) (id : Nat) (ops : Array Oper) (s : Fr) (w : World) (K : Fr → World → Prop) : Prop :=
  match guarded ops.toList && !(memB id H.split || memB id H.sure) with
  | true => specK P (fun t => memB t H.wrap) (memB id H.draws) ops s w fun s' w' => K (s'.keep H.keep) w'
  | false => vcOps P (fun t => memB t H.wrap) (memB id H.sure) ops ops.toList s w fun s' w' => K (s'.keep H.keep) w'

def heldBody (P : Program) (H : Hints) (ops : Array Oper) (ord : List (Nat × Bool)) (s : Fr) (w : World) (K : Fr → World → Prop) : Prop :=
  ∃ S : World → Prop, ∀ w1, w1 = w.drewN 1 → S w1 ∧ heldOps P (fun t => memB t H.wrap) ops S ord s w1 fun s' w' => K (s'.keep H.keep) w'

def heldAt (k : Nat) : List (Nat × List (Nat × Bool)) → Option (List (Nat × Bool))
  | [] => none
  | (t, l) :: r => match Nat.beq t k with | true => some l | false => heldAt k r

def regionK (P : Program) (H : Hints) (id : Nat) (ops : Array Oper) (draw : Bool) (s : Fr) (w : World) (K : Fr → World → Prop) : Prop :=
  match draw with
  | true => match heldAt id H.held with
    | some ord => heldK P (fun t => memB t H.wrap) ops ord s w fun s' w' => K (s'.keep H.keep) w'
    | none => match okDraw P ops with
      | true => drawBody P H ops s w K
      | false => False
  | false => textBody P H id ops s w K

def hintAt (k : Nat) : List (Nat × Vars) → Option Vars
  | [] => none
  | (t, l) :: r => match Nat.beq t k with | true => some l | false => hintAt k r

def vc (P : Program) (H : Hints) : Code → (Exit → Fr → World → Prop) → Fr → World → Prop
  | .skip, Q, s, w => Q .normal s w
  | .region id ops draw, Q, s, w => regionK P H id ops draw s w (Q .normal)
  | .seq x y, Q, s, w =>
    match hintAt (firstReg y) H.cuts with
    | none => vc P H x (fun e s' w' => match e with | .normal => vc P H y Q s' w' | e => Q e s' w') s w
    | some l =>
      match varsOk (asg x) l s with
      | true =>
        ∃ J : Cur (World → Prop) l, vc P H x (fun e s' w' => match e with
            | .normal => match knownSub (asg x) s s' with | true => holdsAt (Cur.app l J (slotsOf l s')) w' | false => False
            | e => Q e s' w') s w ∧
          l.all fun vs => ∀ w', holdsAt (Cur.app l J vs) w' → vc P H y Q (meet (asg x) l vs s) w'
      | false => False
  | .cond c x y, Q, s, w => match s.eval c with
    | .bool b => Br b (vc P H x Q s w) (vc P H y Q s w)
    | _ => False
  | .block id b, Q, s, w => vc P H b (fun e s' w' => match e with | .exit n => (match Nat.beq n id with | true => Q .normal s' w' | false => Q (.exit n) s' w') | e => Q e s' w') s w
  | .loop b, Q, s, w =>
    match hintAt (firstReg b) H.loops with
    | none => False
    | some l =>
      match varsOk (asg b) l s with
      | true =>
        ∃ (I : Cur (World → Prop) l) (m : Cur (World → Nat) l), holdsAt (Cur.app l I (slotsOf l s)) w ∧
          l.all fun vs => ∀ w', holdsAt (Cur.app l I vs) w' →
            vc P H b (fun e s' w'' => match e with
              | .normal => match knownSub (asg b) s s' with
                | true => holdsAt (Cur.app l I (slotsOf l s')) w'' ∧ sizeAt (Cur.app l m (slotsOf l s')) w'' < sizeAt (Cur.app l m vs) w'
                | false => False
              | e => Q e s' w'') (meet (asg b) l vs s) w'
      | false => False
  | .exit id, Q, s, w => Q (.exit id) s w
  | .ret, Q, s, w => Q .ret s w
  | _, _, _, _ => False

theorem holdsAt_some {x : Option (World → Prop)} {w : World} (h : holdsAt x w) : ∃ I, x = some I ∧ I w := by
  cases x with
  | none => exact h.elim
  | some I => exact ⟨I, rfl, h⟩

theorem known_slots {s : Fr} {a : Act} {l : Vars} (hs : Sim s a) (hk : ∀ v ∈ slotsOf l s, isU v = false) : slotsA l a = slotsOf l s := by
  unfold slotsOf slotsA
  apply List.map_congr_left
  intro y hy
  exact hs.slot _ (hk _ (List.mem_map.2 ⟨y, hy, rfl⟩))

theorem varsOk_spec {asg : List Nat} {l : Vars} {s : Fr} (h : varsOk asg l s = true) : (∀ v ∈ l, v.1 ∈ asg ∧ v.1 < s.n) ∧ (l.map (·.1)).Nodup := by
  simp only [varsOk, Bool.and_eq_true] at h
  refine ⟨fun v hv => ?_, nodupB_spec h.2⟩
  have := List.all_eq_true.1 h.1 v hv
  simp only [Bool.and_eq_true] at this
  exact ⟨memB_iff.1 this.1, by have h2 := this.2; rw [Nat.blt_eq] at h2; exact h2⟩

theorem vc_sound {P : Program} {H : Hints} : ∀ (c : Code) {Q' : Exit → Fr → World → Prop} {Q : Exit → Act → World → Prop} {s : Fr} {a : Act} {w : World},
    vc P H c Q' s w → Sim s a → (∀ e s' a' w', Q' e s' w' → Sim s' a' → Unch (fun t => t ∈ asg c) s s' → Q e a' w') → c.wp P Q a w := by
  intro c
  induction c with
  | skip => intro Q' Q s a w h hs hQ; exact wp_skip (hQ _ _ _ _ h hs (Unch.refl _ _))
  | region id ops draw =>
    intro Q' Q s a w h hs hQ
    have hD : ∀ o ∈ ops.toList, ∀ t, o.dst = some t → t ∈ dsts ops.toList := fun o ho t ht => List.mem_filterMap.2 ⟨o, ho, ht⟩
    simp only [vc, regionK] at h
    cases draw with
    | true =>
      simp only at h
      split at h
      · exact heldK_wp (D := fun t => t ∈ dsts ops.toList) (fun j o t ho ht => hD o (by simpa using Array.mem_of_getElem? ho) t ht) h hs (fun s' a' w' hk hs' hu => hQ _ _ _ _ hk (keep_sim hs' _) (keep_unch hu _))
      · split at h
        · rename_i hc
          simp only [okDraw, Bool.and_eq_true] at hc
          exact specK_draw hc.1 hc.2 hD h hs (fun s' a' w' hk hs' hu => hQ _ _ _ _ hk (keep_sim hs' _) (keep_unch hu _))
        · exact h.elim
    | false =>
      simp only [textBody] at h
      split at h
      · exact specK_wp hD h hs (fun s' a' w' hk hs' hu => hQ _ _ _ _ hk (keep_sim hs' _) (keep_unch hu _))
      · refine wp_region_list ?_
        exact vcOps_sound (D := fun t => t ∈ dsts ops.toList) (s0 := s) (fun j o t ho ht => hD o (by simpa using Array.mem_of_getElem? ho) t ht) (fun s' a' w' hk hs' hu => hQ _ _ _ _ hk (keep_sim hs' _) (keep_unch hu _)) _ _ _ _ hD h hs (Unch.refl _ _)
  | seq x y ihx ihy =>
    intro Q' Q s a w h hs hQ
    simp only [vc] at h
    refine wp_seq ?_
    split at h
    · refine ihx h hs ?_
      intro e s' a' w' hq hs' hu
      have hu' : Unch (fun t => t ∈ asg (.seq x y)) s s' := hu.mono fun i hi => List.mem_append.2 (.inl hi)
      cases e with
      | normal =>
        simp only [Exit.then]
        refine ihy hq hs' fun e s'' a'' w'' hq' hs'' hu'' => hQ _ _ _ _ hq' hs'' ?_
        exact hu'.trans (hu''.mono fun i hi => List.mem_append.2 (.inr hi))
      | exit n => exact hQ _ _ _ _ hq hs' hu'
      | goto n => exact hQ _ _ _ _ hq hs' hu'
      | ret => exact hQ _ _ _ _ hq hs' hu'
      | panic n => exact hQ _ _ _ _ hq hs' hu'
      | outgrown => exact hQ _ _ _ _ hq hs' hu'
    · rename_i l hl
      split at h
      · rename_i hok
        obtain ⟨hv, hn⟩ := varsOk_spec hok
        obtain ⟨J, h1, h2⟩ := h
        refine ihx h1 hs ?_
        intro e s' a' w' hq hs' hu
        have hu' : Unch (fun t => t ∈ asg (.seq x y)) s s' := hu.mono fun i hi => List.mem_append.2 (.inl hi)
        cases e with
        | normal =>
          simp only [Exit.then]
          simp only at hq
          split at hq
          · rename_i hsub
            obtain ⟨I, hI, hIw⟩ := holdsAt_some hq
            obtain ⟨hlen, hk⟩ := Cur.app_known hI
            have h3 := (Cur.app_all hI h2).1 w' hq
            refine ihy h3 (meet_sim hs' hu (fun i => knownAll_spec hsub) rfl hk) fun e s'' a'' w'' hq' hs'' hu'' => hQ _ _ _ _ hq' hs'' ?_
            refine Unch.trans (meet_unch (fun v hv' => List.mem_append.2 (.inl (hv v hv').1))) (hu''.mono fun i hi => List.mem_append.2 (.inr hi))
          · exact hq.elim
        | exit n => exact hQ _ _ _ _ hq hs' hu'
        | goto n => exact hQ _ _ _ _ hq hs' hu'
        | ret => exact hQ _ _ _ _ hq hs' hu'
        | panic n => exact hQ _ _ _ _ hq hs' hu'
        | outgrown => exact hQ _ _ _ _ hq hs' hu'
      · exact h.elim
  | cond c x y ihx ihy =>
    intro Q' Q s a w h hs hQ
    simp only [vc] at h
    split at h
    · rename_i b hb
      have hc : a.eval c = .bool b := by rw [hs.eval (by rw [hb]; rfl), hb]
      cases b with
      | true => exact wp_cond_true hc (ihx h hs fun e s' a' w' hq hs' hu => hQ _ _ _ _ hq hs' (hu.mono fun i hi => List.mem_append.2 (.inl hi)))
      | false => exact wp_cond_false hc (ihy h hs fun e s' a' w' hq hs' hu => hQ _ _ _ _ hq hs' (hu.mono fun i hi => List.mem_append.2 (.inr hi)))
    · exact h.elim
  | block id b ih =>
    intro Q' Q s a w h hs hQ
    simp only [vc] at h
    refine wp_block (ih h hs ?_)
    intro e s' a' w' hq hs' hu
    cases e with
    | exit n =>
      simp only [Exit.inBlock]
      simp only at hq
      split at hq
      · rename_i e; rw [if_pos (Nat.eq_of_beq_eq_true e)]; exact hQ _ _ _ _ hq hs' hu
      · rename_i e; rw [if_neg (Nat.ne_of_beq_eq_false e)]; exact hQ _ _ _ _ hq hs' hu
    | normal => exact hQ _ _ _ _ hq hs' hu
    | goto n => exact hQ _ _ _ _ hq hs' hu
    | ret => exact hQ _ _ _ _ hq hs' hu
    | panic n => exact hQ _ _ _ _ hq hs' hu
    | outgrown => exact hQ _ _ _ _ hq hs' hu
  | loop b ih =>
    intro Q' Q s a w h hs hQ
    simp only [vc] at h
    split at h
    · exact h.elim
    · rename_i l hl
      split at h
      · rename_i hok
        obtain ⟨hv, hn⟩ := varsOk_spec hok
        obtain ⟨I, m, h0, h1⟩ := h
        have start : ∃ vs, holdsAt (Cur.app l I vs) w ∧ Sim (meet (asg b) l vs s) a := by
          obtain ⟨J, hJ, _⟩ := holdsAt_some h0
          exact ⟨_, h0, meet_sim hs (Unch.refl _ _) (fun i => knownSub_refl) rfl (Cur.app_known hJ).2⟩
        refine wp_loop (fun a' w' => ∃ vs, holdsAt (Cur.app l I vs) w' ∧ Sim (meet (asg b) l vs s) a') (fun a' w' => sizeAt (Cur.app l m (slotsA l a')) w') start ?_
        rintro a1 w1 ⟨vs, hI, hs1⟩
        obtain ⟨J, hJ, hJw⟩ := holdsAt_some hI
        obtain ⟨hlen, hk⟩ := Cur.app_known hJ
        have h2 := (Cur.app_all hJ h1).1 w1 hI
        have hsl : slotsA l a1 = vs := meet_slots hs1 hn hlen hk fun v hv' => (hv v hv').2
        refine ih h2 hs1 ?_
        intro e s' a' w' hq hs' hu
        have hu' : Unch (fun t => t ∈ asg b) s s' := Unch.trans (meet_unch (fun v hv' => (hv v hv').1)) hu
        cases e with
        | normal =>
          simp only [Exit.then]
          simp only at hq
          split at hq
          · rename_i hsub
            obtain ⟨hq1, hq2⟩ := hq
            obtain ⟨J', hJ', _⟩ := holdsAt_some hq1
            obtain ⟨hlen', hk'⟩ := Cur.app_known hJ'
            refine ⟨⟨_, hq1, meet_sim hs' hu' (fun i => knownAll_spec hsub) rfl hk'⟩, ?_⟩
            rw [hsl, known_slots hs' hk']
            exact hq2
          · exact hq.elim
        | exit n => exact hQ _ _ _ _ hq hs' hu'
        | goto n => exact hQ _ _ _ _ hq hs' hu'
        | ret => exact hQ _ _ _ _ hq hs' hu'
        | panic n => exact hQ _ _ _ _ hq hs' hu'
        | outgrown => exact hQ _ _ _ _ hq hs' hu'
      · exact h.elim
  | exit id => intro Q' Q s a w h hs hQ; exact wp_exit (hQ _ _ _ _ h hs (Unch.refl _ _))
  | ret => intro Q' Q s a w h hs hQ; exact wp_ret (hQ _ _ _ _ h hs (Unch.refl _ _))
  | rangeFunc f p x y => intro Q' Q s a w h; exact h.elim
  | scope b => intro Q' Q s a w h; exact h.elim
  | label l => intro Q' Q s a w h; exact h.elim
  | goto l => intro Q' Q s a w h; exact h.elim
  | refuse why => intro Q' Q s a w h; exact h.elim

/-! ### a function -/
def resVars (P : Program) (s : Fr) (w : World) : List ResultVar → (List Value → Prop) → Prop
  | [], K => K []
  | .tmp t :: r, K => match isU (getL t s.l) with
    | true => False
    | false => resVars P s w r fun vs => K (getL t s.l :: vs)
  | .cell a t :: r, K => match getL a s.l with
    | .pointer (some ⟨b, o, none⟩) => vcLoadG P t w none b o fun v => resVars P s w r fun vs => K (v :: vs)
    | _ => False

theorem resVars_sound {P : Program} {s : Fr} {a : Act} {w : World} (hs : Sim s a) : ∀ {l : List ResultVar} {K : List Value → Prop}, resVars P s w l K →
    ∃ vs, (l.mapM fun r => (match r with | .tmp t => pure (a.tmps.getD t undef) | .cell x t => (do loadVar t (← asAddr (a.tmps.getD x undef)) : Sem Value) : Sem Value)).run P w = .ok vs w ∧ K vs
  | [], K, h => ⟨[], by simp, h⟩
  | .tmp t :: r, K, h => by
    unfold resVars at h
    split at h
    · exact h.elim
    · rename_i hu
      obtain ⟨vs, h1, h2⟩ := resVars_sound hs h
      refine ⟨_, ?_, h2⟩
      rw [List.mapM_cons]
      simp only [Sem.run_bind, Sem.run_pure, Result.andThen, h1, hs.slot t hu]
      rfl
  | .cell x t :: r, K, h => by
    unfold resVars at h
    split at h
    · rename_i b o hx
      obtain ⟨v, h1, h2⟩ := vcLoadG_sound h
      obtain ⟨vs, h3, h4⟩ := resVars_sound hs h2
      refine ⟨_, ?_, h4⟩
      rw [List.mapM_cons]
      have hx0 : s.get x = .pointer (some ⟨b, o, none⟩) := hx
      have hx' : a.tmps.getD x undef = .pointer (some ⟨b, o, none⟩) := by rw [hs.slot x (by rw [hx0]; rfl), hx0]
      have ha : (asAddr (a.tmps.getD x undef)).run P w = .ok ⟨b, o, none⟩ w := by rw [hx']; rfl
      simp only [Sem.run_bind, Sem.run_pure, Result.andThen, ha, h1 trivial w rfl, h3]
    · exact h.elim

def bodyK (P : Program) (fn : Func) (J : Value → World → Prop) : Exit → Fr → World → Prop
  | .normal, s, w | .ret, s, w => resVars P s w fn.results.toList fun vs => J (tupled vs) w
  | _, _, _ => False

def argSlots : Nat → List Value → List (Nat × Value)
  | _, [] => []
  | i, v :: r => (i, v) :: argSlots (i + 1) r

def frameOf (fn : Func) (args : Array Value) : Fr := ⟨max fn.ntmps args.size, argSlots 0 args.toList⟩

theorem argSlots_get (i : Nat) : ∀ (l : List Value) (k : Nat), getL i (argSlots k l) = if k ≤ i then l.getD (i - k) unk else unk
  | [], k => by simp [argSlots, getL]
  | v :: r, k => by
    unfold argSlots getL
    cases hb : Nat.beq k i with
    | true => have := Nat.eq_of_beq_eq_true hb; subst this; simp
    | false =>
      have hne := Nat.ne_of_beq_eq_false hb
      simp only
      rw [argSlots_get i r (k + 1)]
      by_cases h : k ≤ i
      · rw [if_pos h, if_pos (by omega), show i - k = (i - (k + 1)) + 1 by omega]; simp
      · rw [if_neg h, if_neg (by omega)]

theorem frameOf_sim (fn : Func) (args : Array Value) : Sim (frameOf fn args) { tmps := args ++ Array.replicate (fn.ntmps - args.size) undef, defers := [] } := by
  refine ⟨rfl, by simp [frameOf]; omega, fun i hi => ?_⟩
  simp only [frameOf, Fr.get, argSlots_get] at hi ⊢
  simp only [Nat.zero_le, if_true, Nat.sub_zero] at hi ⊢
  by_cases h : i < args.size
  · simp [Array.getD_eq_getD_getElem?, Array.getElem?_append, h]
  · rw [List.getD_eq_getElem?_getD, List.getElem?_eq_none (by simpa using h)] at hi
    cases hi

def vcF (P : Program) (H : Hints) (f : FuncId) (args : Array Value) (w : World) (J : Value → World → Prop) : Prop :=
  match P.funcs[f]? with
  | some fn => match fn.body with
    | some c => vc P H c (bodyK P fn J) (frameOf fn args) w
    | none => False
  | none => False

theorem tupled_run {vs : List Value} : (if h : vs.toArray.size = 1 then vs.toArray[0] else Value.tuple vs.toArray) = tupled vs := by
  match vs with
  | [] => rfl
  | [v] => rfl
  | _ :: _ :: _ => rfl

theorem vcF_sound {P : Program} {H : Hints} {f : FuncId} {args : Array Value} {w : World} {J : Value → World → Prop} (h : vcF P H f args w J) :
    Calls P f args w fun e w' => ∃ v, e = .returned v ∧ J v w' := by
  unfold vcF at h
  split at h
  · rename_i fn hf
    split at h
    · rename_i c hc
      refine calls_of_wp hf hc (vc_sound c h (frameOf_sim fn args) ?_)
      intro e s a w' hq hs _
      have key : (resVars P s w' fn.results.toList fun vs => J (tupled vs) w') → bodyPost P fn (fun e w' => ∃ v, e = .returned v ∧ J v w') .ret a w' := by
        intro hq
        obtain ⟨vs, h1, h2⟩ := resVars_sound hs hq
        refine ⟨hs.defers, tupled vs, ?_, tupled vs, rfl, h2⟩
        unfold results
        rw [Array.mapM_eq_mapM_toList, map_eq_pure_bind, Sem.run_bind, Sem.run_bind]
        have e : ∀ (r : Result (List Value)), r = .ok vs w' → (((r.andThen fun a => (pure a.toArray : Sem (Array Value)).run P).andThen fun vs => (pure (if h : vs.size = 1 then vs[0] else Value.tuple vs) : Sem Value).run P)) = .ok (tupled vs) w' := by
          intro r hr
          subst hr
          simp only [Result.andThen, Sem.run_pure, tupled_run]
        exact e _ h1
      cases e with
      | normal => exact key hq
      | ret => exact key hq
      | _ => exact hq.elim
    · exact h.elim
  · exact h.elim

end Go.Vc
